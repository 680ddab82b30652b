import Derived.Test.YtdhhimfcjoclfaaGreatVA3
set_option linter.unusedVariables false
set_option linter.unusedSimpArgs false
set_option maxRecDepth 100000
namespace Go.Proofs.YtdhhimfcjoclfaaGreat
open Go Go.K Go.V Go.Proofs
attribute [local irreducible] Calls
theorem cg30 {m : Mem} {L : List Atom} {w : World} {cs1 : List Value} {r3 : Round} {from9 : Int} (hS : St w m L) (hx2 : RRound m cs1 r3) {fuel : Nat} {r : (List Step) × Int × Int} (hM : mg30 fuel r3 from9 = some r) : Calls P0 30 [.agg cs1.toArray, .int .i64 from9].toArray w (Ret fun v w' => ∃ (a0 : Option Addr) (n0 : Nat) (c0 : Nat) (cs0 : List Value), v = .tuple #[.slice a0 n0 c0, .int .i64 r.2.1, .int .i64 r.2.2] ∧ n0 = r.1.length ∧ RCs 2 RStep m cs0 r.1 ∧ St w' m (.row (.slice a0 n0 c0) 44 2 cs0 :: L)) := by
 rw [mg30] at hM
 have hk8 := hx2
 obtain ⟨a4, n5, c6, rfl, hr7⟩ := hx2
 obtain rfl := hr7.1
 refine enter Tryz.func30 rfl Tryz.ntmps30 (Nat.le_of_ble_eq_true rfl) ?_
 refine c_seq <| c_region <| wl_box hS (v := .agg #[.int .i64 _, .slice _ _ _]) rfl (cs := [.int .i64 _, .slice _ _ _]) rfl ?_
 intro b10 w11 hS12
 refine wl_h hS12.toHeld (r_assign (v := .slice _ _ _) rfl) <| wl_h hS12.toHeld (r_assign (v := .int .i64 _) rfl) <| wl_h hS12.toHeld (r_assign (v := .int .i64 _) rfl) <| wl_nil <| c_scope ?_
 refine c_seq <| c_seq <| c_region <| wl_h hS12.toHeld (r_box ty41 (k := 0) .here rfl rfl rfl (v := .agg #[.int .i64 _, .slice _ _ _]) rfl) ?_
 obtain ⟨r13, hq14, hM⟩ := bnd_ok hM
 refine wl_call ent46 (vals := [.agg #[.int .i64 _, .slice _ _ _]]) rfl (cg46 hS12 hk8 hq14) ?_
 rintro _ w16 ⟨rfl, hS17⟩
 refine wl_h hS17.toHeld (r_assign (v := .int .i64 _) rfl) <| wl_nil <| c_seq <| c_region <| wl_h hS17.toHeld (r_move (v := .int .i64 _) rfl) ?_
 refine wl_h hS17.toHeld (r_neq (a := _) (b := _) rfl rfl) <| wl_nil <| c_cond (c := _) rfl (fun h18 => ?_) (fun h18 => ?_)
 ·replace hM := bif_t h18 hM
  refine c_seq <| c_region <| wl_h hS17.toHeld (r_move (v := .int .i64 _) rfl) <| wl_h hS17.toHeld (r_assign (v := .slice _ _ _) rfl) <| wl_h hS17.toHeld (r_assign (v := .int .i64 _) rfl) ?_
  refine wl_h hS17.toHeld (r_assign (v := .int .i64 _) rfl) <| wl_nil <| c_ret <| q_scoper <| ret_many rfl (.tmp (v := .slice _ _ _) rfl (.tmp (v := .int .i64 _) rfl (.tmp (v := .int .i64 _) rfl .nil))) ?_
  have hS19 := hS17.nilRow 44 2
  have hrc21 : RCs 2 RStep m [] ([] : List Step) := RCs.nil
  obtain rfl := some_eq hM
  have hS22 := hS19.weaken (.cons_cons _ (.cons _ (.refl _)))
  exact ⟨none, 0, 0, [], rfl, row_n (hS22.toHeld.own .here) hrc21 (by decide), hrc21, hS22⟩
 ·replace hM := bif_f h18 hM
  refine c_skip <| c_seq <| c_seq <| c_region <| wl_h hS17.toHeld (r_box ty41 (k := 0) .here rfl rfl rfl (v := .agg #[.int .i64 _, .slice _ _ _]) rfl) ?_
  refine wl_h hS17.toHeld (r_move (v := .int .i64 _) rfl) ?_
  obtain ⟨r23, hq24, hM⟩ := bnd_ok hM
  refine wl_call ent79 (vals := [.agg #[.int .i64 _, .slice _ _ _], .int .i64 _]) rfl (cg79 hS17 hk8 hq24) ?_
  rintro _ w26 ⟨rfl, hS27⟩
  refine wl_h hS27.toHeld (r_not (b := _) rfl) <| wl_nil <| c_cond (c := _) rfl (fun h28 => ?_) (fun h28 => ?_)
  ·replace hM := bif_t h28 hM
   refine c_seq <| c_region <| wl_h hS27.toHeld (r_assign (v := .slice _ _ _) rfl) <| wl_h hS27.toHeld (r_assign (v := .int .i64 _) rfl) <| wl_h hS27.toHeld (r_assign (v := .int .i64 _) rfl) ?_
   refine wl_nil <| c_ret <| q_scoper <| ret_many rfl (.tmp (v := .slice _ _ _) rfl (.tmp (v := .int .i64 _) rfl (.tmp (v := .int .i64 _) rfl .nil))) ?_
   have hS29 := hS27.nilRow 44 2
   have hrc31 : RCs 2 RStep m [] ([] : List Step) := RCs.nil
   obtain rfl := some_eq hM
   have hS32 := hS29.weaken (.cons_cons _ (.cons _ (.refl _)))
   exact ⟨none, 0, 0, [], rfl, row_n (hS32.toHeld.own .here) hrc31 (by decide), hrc31, hS32⟩
  ·replace hM := bif_f h28 hM
   refine c_skip <| c_seq <| c_region <| wl_h hS27.toHeld (r_box ty41 (k := 0) .here rfl rfl rfl (v := .agg #[.int .i64 _, .slice _ _ _]) rfl) ?_
   obtain ⟨r33, hq34, hM⟩ := bnd_ok hM
   refine wl_call ent80 (vals := [.agg #[.int .i64 _, .slice _ _ _]]) rfl (cg80 hS27 hk8 hq34) ?_
   rintro _ w42 ⟨a36, n37, c38, cs39, rfl, rfl, hrc40, hS43⟩
   refine wl_h hS43.toHeld (r_move (v := .tuple #[.slice _ _ _, .int .i64 _]) rfl) <| wl_h hS43.toHeld (r_extract (vs := [.slice _ _ _, .int .i64 _]) rfl (v := .slice _ _ _) rfl) <| wl_h hS43.toHeld (r_extract (vs := [.slice _ _ _, .int .i64 _]) rfl (v := .int .i64 _) rfl) <| wl_h hS43.toHeld (r_assign (v := .slice _ _ _) rfl) <| wl_h hS43.toHeld (r_assign (v := .int .i64 _) rfl) ?_
   refine wl_nil <| c_seq <| c_seq <| c_region <| wl_h hS43.toHeld (r_fieldAddr fld41_1 (b := _) (o := _) rfl) ?_
   refine wl_h hS43.toHeld (r_box ty39 (k := 1) (.there .here) rfl rfl rfl (v := .slice _ _ _) rfl) <| wl_h hS43.toHeld (r_len Tryz.underlying39 (a := _) (n := _) (c := _) rfl) <| wl_h hS43.toHeld (r_move (v := .int .i64 _) rfl) <| wl_nil <| c_block <| c_loop (fun k f w => ∃ (length5417 : Int) (x5418 : Int) (l5419 : List Int) (a5420 : Option Addr) (n5421 : Nat) (c5422 : Nat) (cs5423 : List Value), mg30_l0 fuel r3 from9 k length5417 x5418 l5419 = some r ∧ n5421 = l5419.length ∧ RCs 1 RInt m cs5423 l5419 ∧ St w m (.row (.slice a5420 n5421 c5422) 3 1 cs5423 :: .box b10 41 [.int .i64 r3.corners, .slice a4 r3.streets.length c6] :: L) ∧ f 1 = .int .i64 from9 ∧ f 2 = .pointer (some ⟨b10, 0, none⟩) ∧ f 8 = .slice a5420 n5421 c5422 ∧ f 9 = .int .i64 length5417 ∧ f 34 = .slice a4 r3.streets.length c6 ∧ f 35 = .int .i64 ((r3.streets.length : Nat) : Int) ∧ f 36 = .int .i64 x5418) fuel ⟨r33.2, 0, r33.1, a36, r33.1.length, c38, cs39, hM, row_n (hS43.toHeld.own .here) hrc40 (by decide), hrc40, hS43, rfl, rfl, rfl, rfl, rfl, rfl, rfl⟩ ?_
   rintro k_0 f5426 w5427 ⟨length5417, x5418, l5419, a5420, n5421, c5422, cs5423, hM, hn5424, hrc5425, hS5429, e5430, e5431, e5432, e5433, e5434, e5435, e5436⟩
   subst hn5424
   refine c_know (t := 1) e5430 <| c_know (t := 2) e5431 <| c_know (t := 8) e5432 <| c_know (t := 9) e5433 <| c_know (t := 34) e5434 ?_
   refine c_know (t := 35) e5435 <| c_know (t := 36) e5436 ?_
   clear e5430 e5431 e5432 e5433 e5434 e5435 e5436
   rcases k_0 with _ | k_0
   · exact none_ne hM
   rw [mg30_l0] at hM
   refine c_seq <| c_region <| wl_h hS5429.toHeld (r_lss (a := _) (b := _) rfl rfl) <| wl_nil <| c_seq <| c_cond (c := _) rfl (fun h5437 => ?_) (fun h5437 => ?_)
   ·replace hM := bif_t h5437 hM
    refine c_skip <| c_seq <| c_block <| c_seq <| c_region <| wl_h hS5429.toHeld (r_move (v := .int .i64 _) rfl) ?_
    obtain ⟨x5438, hx5439, h5440, h5441, hM⟩ := getK_ok hM
    obtain ⟨b5442, o5443, rfl⟩ := RSl.elem_a hr7 hx5439
    obtain ⟨cs5444, hI5445, hR5446⟩ := RSl.elem_at hr7 hx5439
    obtain rfl := hR5446
    refine wl_h hS5429.toHeld (r_indexAddr Tryz.underlying39 ty47 (b := _) (o := _) (n := _) (c := _) (i := x5418) rfl rfl h5440 (RSl.lt hr7 h5441)) <| wl_h hS5429.toHeld (r_imm ty47 (k := 0) hI5445 rfl rfl rfl (v := .agg #[.int .i64 _, .int .i64 _, .int .i64 _]) rfl) <| wl_alloc ty47 rfl hS5429 ?_
    intro b5447 w5448 hS5449
    refine wl_h hS5449.toHeld (r_assign (v := .int .i64 _) rfl) <| wl_store_box ty47 hS5449 rfl (v := .agg #[.int .i64 _, .int .i64 _, .int .i64 _]) rfl (vs := [.int .i64 _, .int .i64 _, .int .i64 _]) rfl rfl rfl .here (cs' := [.int .i64 _, .int .i64 _, .int .i64 _]) rfl rfl ?_
    intro w5450 hS5451
    refine wl_nil <| c_seq <| c_region <| wl_h hS5451.toHeld (r_move (v := .slice _ _ _) rfl) <| wl_h hS5451.toHeld (r_move (v := .int .i64 _) rfl) ?_
    obtain ⟨x5452, hx5453, h5454, h5455, hM⟩ := getK_ok hM
    obtain ⟨b5456, rfl⟩ := row_some (hS5451.toHeld.own (.there .here)) hrc5425 (by decide) h5454 h5455
    obtain ⟨es5457, hes5458, hR5459⟩ := row_read hrc5425 hx5453
    obtain rfl := hR5459
    refine wl_h hS5451.toHeld (r_indexAddr Tryz.underlying26 ty3 (b := _) (o := _) (n := _) (c := _) (i := x5418) rfl rfl h5454 (row_lt (hS5451.toHeld.own (.there .here)) hrc5425 (by decide) h5455)) <| wl_h hS5451.toHeld (r_row ty3 (k := 0) (i := x5418.toNat) (.there .here) rfl rfl (row_room hrc5425 hx5453) hes5458 rfl (v := .int .i64 _) rfl) ?_
    obtain ⟨hc5460, hM⟩ := chk_ok hM
    refine wl_h hS5451.toHeld (r_add (a := _) (b := _) rfl rfl (ok_lo hc5460) (ok_hi hc5460)) ?_
    obtain ⟨x5461, hx5462, h5463, h5464, hM⟩ := getK_ok hM
    obtain ⟨es5465, hes5466, hR5467⟩ := row_read hrc5425 hx5462
    obtain rfl := hR5467
    refine wl_h hS5451.toHeld (r_indexAddr Tryz.underlying26 ty3 (b := _) (o := _) (n := _) (c := _) (i := x5418) rfl rfl h5463 (row_lt (hS5451.toHeld.own (.there .here)) hrc5425 (by decide) h5464)) <| wl_store_row ty3 hS5451 rfl (v := .int .i64 _) rfl (vs := [.int .i64 _]) rfl rfl rfl (.there .here) (Nat.le_trans (by simp only [Nat.zero_add]; omega) (row_room hrc5425 hx5462)) ?_
    intro w5468 hS5469
    have hrc5470 := RCs.seti hrc5425 hx5462 (vs := [.int .i64 (x5452 + 1)]) (y := x5452 + 1) rfl rfl
    generalize spl cs5423 (0 + x5418.toNat * 1) [.int .i64 (x5452 + 1)] = cs5471 at hS5469 hrc5470
    refine wl_nil <| c_region <| wl_h hS5469.toHeld (r_move (v := .int .i64 _) rfl) <| wl_h hS5469.toHeld (r_fieldAddr fld47_2 (b := _) (o := _) rfl) <| wl_h hS5469.toHeld (r_box ty3 (k := 2) .here rfl rfl rfl (v := .int .i64 _) rfl) ?_
    obtain ⟨hc5472, hM⟩ := chk_ok hM
    refine wl_h hS5469.toHeld (r_add (a := _) (b := _) rfl rfl (ok_lo hc5472) (ok_hi hc5472)) <| wl_h hS5469.toHeld (r_assign (v := .int .i64 _) rfl) <| wl_nil <| c_nil <| q_norm <| c_region ?_
    obtain ⟨hc5473, hM⟩ := chk_ok hM
    refine wl_h hS5469.toHeld (r_add (a := _) (b := _) rfl rfl (ok_lo hc5473) (ok_hi hc5473)) <| wl_h hS5469.toHeld (r_move (v := .int .i64 _) rfl) <| wl_nil <| c_nil <| q_loop ?_
    have hS5474 := hS5469.weaken (.cons _ (.cons_cons _ (.cons_cons _ (.refl _))))
    exact ⟨k_0, Nat.lt_succ_self _, length5417 + x5438.length, x5418 + 1, (l5419.set x5418.toNat (x5452 + 1)), (some ⟨b5456, 0, none⟩), l5419.length, c5422, cs5471, hM, row_n (hS5474.toHeld.own .here) hrc5470 (by decide), hrc5470, hS5474, rfl, rfl, rfl, rfl, rfl, rfl, rfl⟩
   ·replace hM := bif_f h5437 hM
    refine c_exit <| q_loopx <| q_hit <| c_seq <| c_region <| wl_h hS5429.toHeld (r_move (v := .int .i64 _) rfl) ?_
    refine wl_buildSlice Tryz.underlying26 ty3 rfl (by decide) (by decide) hS5429 (ps := [(0, [.int .i64 _])]) rfl rfl (cs := [.int .i64 _]) rfl rfl (by decide) ?_
    intro b5476 w5477 hS5478
    have hrc5479 : RCs 1 RInt m [.int .i64 from9] ([from9] : List Int) := (RCs.cons (d := [.int .i64 from9]) rfl rfl RCs.nil)
    refine wl_h hS5478.toHeld (r_assign (v := .slice _ _ _) rfl) <| wl_nil <| c_seq <| c_region <| wl_h hS5478.toHeld (r_build ty148 st148 (ps := []) rfl rfl (cs := [.int .i64 _, .bool _, .bool _]) rfl) ?_
    refine wl_buildSlice Tryz.underlying149 ty148 rfl (by decide) (by decide) hS5478 (ps := [(0, [.int .i64 _, .bool _, .bool _])]) rfl rfl (cs := [.int .i64 _, .bool _, .bool _]) rfl rfl (by decide) ?_
    intro b5481 w5482 hS5483
    have hrc5484 : RCs 3 RCome m [.int .i64 0, .bool false, .bool false] ([(⟨(⟨0, false⟩ : Step), false⟩ : Come)] : List Come) := (RCs.cons (d := [.int .i64 0, .bool false, .bool false]) rfl rfl RCs.nil)
    refine wl_h hS5483.toHeld (r_assign (v := .slice _ _ _) rfl) <| wl_nil <| c_seq <| c_region <| wl_h hS5483.toHeld (r_assign (v := .slice _ _ _) rfl) ?_
    refine wl_nil <| c_seq <| c_label <| c_seq <| c_block ?_
    have hS7428 := hS5483.nilRow 44 2
    have hrc7429 : RCs 2 RStep m [] ([] : List Step) := RCs.nil
    refine c_loop (fun k f w => ∃ (l7430 : List Step) (l7437 : List Come) (l7444 : List Int) (l7451 : List Int) (a7431 : Option Addr) (n7432 : Nat) (c7433 : Nat) (cs7434 : List Value) (a7438 : Option Addr) (n7439 : Nat) (c7440 : Nat) (cs7441 : List Value) (a7445 : Option Addr) (n7446 : Nat) (c7447 : Nat) (cs7448 : List Value) (a7452 : Option Addr) (n7453 : Nat) (c7454 : Nat) (cs7455 : List Value), mg30_l1 fuel r3 length5417 k l7430 l7437 l7444 l7451 = some r ∧ n7432 = l7430.length ∧ RCs 2 RStep m cs7434 l7430 ∧ n7439 = l7437.length ∧ RCs 3 RCome m cs7441 l7437 ∧ n7446 = l7444.length ∧ RCs 1 RInt m cs7448 l7444 ∧ n7453 = l7451.length ∧ RCs 1 RInt m cs7455 l7451 ∧ St w m (.row (.slice a7431 n7432 c7433) 44 2 cs7434 :: .row (.slice a7438 n7439 c7440) 148 3 cs7441 :: .row (.slice a7445 n7446 c7447) 3 1 cs7448 :: .row (.slice a7452 n7453 c7454) 3 1 cs7455 :: .box b10 41 [.int .i64 r3.corners, .slice a4 r3.streets.length c6] :: L) ∧ f 2 = .pointer (some ⟨b10, 0, none⟩) ∧ f 8 = .slice a7452 n7453 c7454 ∧ f 9 = .int .i64 length5417 ∧ f 12 = .slice a7445 n7446 c7447 ∧ f 13 = .slice a7438 n7439 c7440 ∧ f 14 = .slice a7431 n7432 c7433) fuel ⟨([] : List Step), [(⟨(⟨0, false⟩ : Step), false⟩ : Come)], [from9], l5419, none, 0, 0, [], (some ⟨b5481, 0, none⟩), 1, 1, [.int .i64 0, .bool false, .bool false], (some ⟨b5476, 0, none⟩), 1, 1, [.int .i64 from9], a5420, l5419.length, c5422, cs5423, hM, row_n (hS7428.toHeld.own .here) hrc7429 (by decide), hrc7429, row_n (hS7428.toHeld.own (.there .here)) hrc5484 (by decide), hrc5484, row_n (hS7428.toHeld.own (.there (.there .here))) hrc5479 (by decide), hrc5479, row_n (hS7428.toHeld.own (.there (.there (.there .here)))) hrc5425 (by decide), hrc5425, hS7428, rfl, rfl, rfl, rfl, rfl, rfl⟩ ?_
    rintro k_1 f7458 w7459 ⟨l7430, l7437, l7444, l7451, a7431, n7432, c7433, cs7434, a7438, n7439, c7440, cs7441, a7445, n7446, c7447, cs7448, a7452, n7453, c7454, cs7455, hM, hn7435, hrc7436, hn7442, hrc7443, hn7449, hrc7450, hn7456, hrc7457, hS7461, e7462, e7463, e7464, e7465, e7466, e7467⟩
    subst hn7435
    subst hn7442
    subst hn7449
    subst hn7456
    refine c_know (t := 2) e7462 <| c_know (t := 8) e7463 <| c_know (t := 9) e7464 <| c_know (t := 12) e7465 <| c_know (t := 13) e7466 ?_
    refine c_know (t := 14) e7467 ?_
    clear e7462 e7463 e7464 e7465 e7466 e7467
    rcases k_1 with _ | k_1
    · exact none_ne hM
    rw [mg30_l1] at hM
    refine c_seq <| c_seq <| c_region <| wl_h hS7461.toHeld (r_move (v := .slice _ _ _) rfl) <| wl_h hS7461.toHeld (r_len Tryz.underlying26 (a := _) (n := _) (c := _) rfl) ?_
    refine wl_h hS7461.toHeld (r_gtr (a := _) (b := _) rfl rfl) <| wl_nil <| c_cond (c := _) rfl (fun h7468 => ?_) (fun h7468 => ?_)
    ·replace hM := bif_t h7468 hM
     refine c_skip <| c_block <| c_seq <| c_region <| wl_h hS7461.toHeld (r_move (v := .slice _ _ _) rfl) ?_
     refine wl_h hS7461.toHeld (r_move (v := .slice _ _ _) rfl) <| wl_h hS7461.toHeld (r_len Tryz.underlying26 (a := _) (n := _) (c := _) rfl) ?_
     obtain ⟨hc7469, hM⟩ := chk_ok hM
     refine wl_h hS7461.toHeld (r_sub (a := _) (b := _) rfl rfl (ok_lo hc7469) (ok_hi hc7469)) ?_
     obtain ⟨x7470, hx7471, h7472, h7473, hM⟩ := getK_ok hM
     obtain ⟨b7474, rfl⟩ := row_some (hS7461.toHeld.own (.there (.there .here))) hrc7450 (by decide) h7472 h7473
     obtain ⟨es7475, hes7476, hR7477⟩ := row_read hrc7450 hx7471
     obtain rfl := hR7477
     refine wl_h hS7461.toHeld (r_indexAddr Tryz.underlying26 ty3 (b := _) (o := _) (n := _) (c := _) (i := ((l7444.length : Nat) : Int) - 1) rfl rfl h7472 (row_lt (hS7461.toHeld.own (.there (.there .here))) hrc7450 (by decide) h7473)) <| wl_h hS7461.toHeld (r_row ty3 (k := 0) (i := (((l7444.length : Nat) : Int) - 1).toNat) (.there (.there .here)) rfl rfl (row_room hrc7450 hx7471) hes7476 rfl (v := .int .i64 _) rfl) <| wl_h hS7461.toHeld (r_assign (v := .int .i64 _) rfl) <| wl_nil <| c_seq <| c_seq <| c_region <| wl_h hS7461.toHeld (r_fieldAddr fld41_1 (b := _) (o := _) rfl) ?_
     refine wl_h hS7461.toHeld (r_box ty39 (k := 1) (.there (.there (.there (.there .here)))) rfl rfl rfl (v := .slice _ _ _) rfl) <| wl_h hS7461.toHeld (r_len Tryz.underlying39 (a := _) (n := _) (c := _) rfl) <| wl_h hS7461.toHeld (r_move (v := .int .i64 _) rfl) <| wl_nil <| c_block <| c_loop (fun k f w => ∃ (x7786 : Int), mg30_l2 fuel r3 l7430 l7437 l7444 l7451 x7470 (mg30_l1 fuel r3 length5417 k_1) k x7786 = some r ∧ St w m (.row (.slice a7431 l7430.length c7433) 44 2 cs7434 :: .row (.slice a7438 l7437.length c7440) 148 3 cs7441 :: .row (.slice (some ⟨b7474, 0, none⟩) l7444.length c7447) 3 1 cs7448 :: .row (.slice a7452 l7451.length c7454) 3 1 cs7455 :: .box b10 41 [.int .i64 r3.corners, .slice a4 r3.streets.length c6] :: L) ∧ f 2 = .pointer (some ⟨b10, 0, none⟩) ∧ f 8 = .slice a7452 l7451.length c7454 ∧ f 9 = .int .i64 length5417 ∧ f 12 = .slice (some ⟨b7474, 0, none⟩) l7444.length c7447 ∧ f 13 = .slice a7438 l7437.length c7440 ∧ f 14 = .slice a7431 l7430.length c7433 ∧ f 15 = .int .i64 x7470 ∧ f 66 = .slice a4 r3.streets.length c6 ∧ f 67 = .int .i64 ((r3.streets.length : Nat) : Int) ∧ f 68 = .int .i64 x7786) fuel ⟨0, hM, hS7461, rfl, rfl, rfl, rfl, rfl, rfl, rfl, rfl, rfl, rfl⟩ ?_
     rintro k_2 f7787 w7788 ⟨x7786, hM, hS7790, e7791, e7792, e7793, e7794, e7795, e7796, e7797, e7798, e7799, e7800⟩
     refine c_know (t := 2) e7791 <| c_know (t := 8) e7792 <| c_know (t := 9) e7793 <| c_know (t := 12) e7794 <| c_know (t := 13) e7795 ?_
     refine c_know (t := 14) e7796 <| c_know (t := 15) e7797 <| c_know (t := 66) e7798 <| c_know (t := 67) e7799 <| c_know (t := 68) e7800 ?_
     clear e7791 e7792 e7793 e7794 e7795 e7796 e7797 e7798 e7799 e7800
     rcases k_2 with _ | k_2
     · exact none_ne hM
     rw [mg30_l2] at hM
     refine c_seq <| c_region <| wl_h hS7790.toHeld (r_lss (a := _) (b := _) rfl rfl) <| wl_nil <| c_seq <| c_cond (c := _) rfl (fun h7801 => ?_) (fun h7801 => ?_)
     ·replace hM := bif_t h7801 hM
      refine c_skip <| c_seq <| c_block <| c_seq <| c_region <| wl_h hS7790.toHeld (r_move (v := .int .i64 _) rfl) ?_
      obtain ⟨x7802, hx7803, h7804, h7805, hM⟩ := getK_ok hM
      obtain ⟨b7806, o7807, rfl⟩ := RSl.elem_a hr7 hx7803
      obtain ⟨cs7808, hI7809, hR7810⟩ := RSl.elem_at hr7 hx7803
      obtain rfl := hR7810
      refine wl_h hS7790.toHeld (r_indexAddr Tryz.underlying39 ty47 (b := _) (o := _) (n := _) (c := _) (i := x7786) rfl rfl h7804 (RSl.lt hr7 h7805)) <| wl_h hS7790.toHeld (r_imm ty47 (k := 0) hI7809 rfl rfl rfl (v := .agg #[.int .i64 _, .int .i64 _, .int .i64 _]) rfl) <| wl_alloc ty47 rfl hS7790 ?_
      intro b7811 w7812 hS7813
      refine wl_h hS7813.toHeld (r_assign (v := .int .i64 _) rfl) <| wl_store_box ty47 hS7813 rfl (v := .agg #[.int .i64 _, .int .i64 _, .int .i64 _]) rfl (vs := [.int .i64 _, .int .i64 _, .int .i64 _]) rfl rfl rfl .here (cs' := [.int .i64 _, .int .i64 _, .int .i64 _]) rfl rfl ?_
      intro w7814 hS7815
      refine wl_nil <| c_seq <| c_region <| wl_h hS7815.toHeld (r_move (v := .slice _ _ _) rfl) <| wl_h hS7815.toHeld (r_move (v := .int .i64 _) rfl) ?_
      obtain ⟨x7816, hx7817, h7818, h7819, hM⟩ := getK_ok hM
      obtain ⟨b7820, rfl⟩ := row_some (hS7815.toHeld.own (.there (.there (.there (.there .here))))) hrc7457 (by decide) h7818 h7819
      obtain ⟨es7821, hes7822, hR7823⟩ := row_read hrc7457 hx7817
      obtain rfl := hR7823
      refine wl_h hS7815.toHeld (r_indexAddr Tryz.underlying26 ty3 (b := _) (o := _) (n := _) (c := _) (i := x7786) rfl rfl h7818 (row_lt (hS7815.toHeld.own (.there (.there (.there (.there .here))))) hrc7457 (by decide) h7819)) <| wl_h hS7815.toHeld (r_row ty3 (k := 0) (i := x7786.toNat) (.there (.there (.there (.there .here)))) rfl rfl (row_room hrc7457 hx7817) hes7822 rfl (v := .int .i64 _) rfl) <| wl_h hS7815.toHeld (r_gtr (a := _) (b := _) rfl rfl) <| wl_h hS7815.toHeld (r_move (v := .bool _) rfl) <| wl_split rfl (c := _) (t := 78) (fun h7824 => ?_) (fun h7824 => ?_)
      ·replace hM := bif_t h7824 hM
       refine wl_on (t := 78) rfl rfl ?_
       refine wl_h hS7815.toHeld (r_fieldAddr fld47_0 (b := _) (o := _) rfl) <| wl_on (t := 78) rfl rfl ?_
       refine wl_h hS7815.toHeld (r_box ty3 (k := 0) .here rfl rfl rfl (v := .int .i64 _) rfl) <| wl_on (t := 78) rfl rfl ?_
       refine wl_h hS7815.toHeld (r_move (v := .int .i64 _) rfl) <| wl_on (t := 78) rfl rfl ?_
       refine wl_h hS7815.toHeld (r_eql (a := _) (b := _) rfl rfl) <| wl_on (t := 78) rfl rfl ?_
       refine wl_h hS7815.toHeld (r_move (v := .bool _) rfl) <| wl_split rfl (c := _) (t := 83) (fun h7825 => ?_) (fun h7825 => ?_)
       ·replace hM := bif_t h7825 hM
        refine wl_off (t := 83) (b := true) rfl rfl rfl ?_
        refine wl_off (t := 83) (b := true) rfl rfl rfl ?_
        refine wl_off (t := 83) (b := true) rfl rfl rfl ?_
        refine wl_off (t := 83) (b := true) rfl rfl rfl ?_
        refine wl_on (t := 78) rfl rfl ?_
        refine wl_h hS7815.toHeld (r_pick_t rfl (v := .bool _) rfl) <| wl_h hS7815.toHeld (r_pick_t rfl (v := .bool _) rfl) <| wl_nil <| c_true rfl <| c_seq <| c_region <| wl_h hS7815.toHeld (r_move (v := .slice _ _ _) rfl) ?_
        refine wl_h hS7815.toHeld (r_move (v := .int .i64 _) rfl) ?_
        obtain ⟨x7826, hx7827, h7828, h7829, hM⟩ := getK_ok hM
        obtain ⟨es7830, hes7831, hR7832⟩ := row_read hrc7457 hx7827
        obtain rfl := hR7832
        refine wl_h hS7815.toHeld (r_indexAddr Tryz.underlying26 ty3 (b := _) (o := _) (n := _) (c := _) (i := x7786) rfl rfl h7828 (row_lt (hS7815.toHeld.own (.there (.there (.there (.there .here))))) hrc7457 (by decide) h7829)) <| wl_h hS7815.toHeld (r_row ty3 (k := 0) (i := x7786.toNat) (.there (.there (.there (.there .here)))) rfl rfl (row_room hrc7457 hx7827) hes7831 rfl (v := .int .i64 _) rfl) ?_
        obtain ⟨hc7833, hM⟩ := chk_ok hM
        refine wl_h hS7815.toHeld (r_sub (a := _) (b := _) rfl rfl (ok_lo hc7833) (ok_hi hc7833)) ?_
        obtain ⟨x7834, hx7835, h7836, h7837, hM⟩ := getK_ok hM
        obtain ⟨es7838, hes7839, hR7840⟩ := row_read hrc7457 hx7835
        obtain rfl := hR7840
        refine wl_h hS7815.toHeld (r_indexAddr Tryz.underlying26 ty3 (b := _) (o := _) (n := _) (c := _) (i := x7786) rfl rfl h7836 (row_lt (hS7815.toHeld.own (.there (.there (.there (.there .here))))) hrc7457 (by decide) h7837)) <| wl_store_row ty3 hS7815 rfl (v := .int .i64 _) rfl (vs := [.int .i64 _]) rfl rfl rfl (.there (.there (.there (.there .here)))) (Nat.le_trans (by simp only [Nat.zero_add]; omega) (row_room hrc7457 hx7835)) ?_
        intro w7841 hS7842
        have hrc7843 := RCs.seti hrc7457 hx7835 (vs := [.int .i64 (x7826 - 1)]) (y := x7826 - 1) rfl rfl
        generalize spl cs7455 (0 + x7786.toNat * 1) [.int .i64 (x7826 - 1)] = cs7844 at hS7842 hrc7843
        refine wl_nil <| c_seq <| c_region <| wl_h hS7842.toHeld (r_move (v := .slice _ _ _) rfl) <| wl_h hS7842.toHeld (r_fieldAddr fld47_0 (b := _) (o := _) rfl) ?_
        refine wl_h hS7842.toHeld (r_box ty3 (k := 0) .here rfl rfl rfl (v := .int .i64 _) rfl) <| wl_h hS7842.toHeld (r_fieldAddr fld47_1 (b := _) (o := _) rfl) <| wl_h hS7842.toHeld (r_box ty3 (k := 1) .here rfl rfl rfl (v := .int .i64 _) rfl) ?_
        obtain ⟨hc7845, hM⟩ := chk_ok hM
        refine wl_h hS7842.toHeld (r_add (a := _) (b := _) rfl rfl (ok_lo hc7845) (ok_hi hc7845)) <| wl_h hS7842.toHeld (r_move (v := .int .i64 _) rfl) ?_
        obtain ⟨hc7846, hM⟩ := chk_ok hM
        refine wl_h hS7842.toHeld (r_sub (a := _) (b := _) rfl rfl (ok_lo hc7846) (ok_hi hc7846)) <| wl_buildSlice Tryz.underlying26 ty3 rfl (by decide) (by decide) hS7842 (ps := [(0, [.int .i64 _])]) rfl rfl (cs := [.int .i64 _]) rfl rfl (by decide) ?_
        intro b7848 w7849 hS7850
        have hrc7851 : RCs 1 RInt m [.int .i64 ((x7802.a + x7802.b) - x7470)] ([(x7802.a + x7802.b) - x7470] : List Int) := (RCs.cons (d := [.int .i64 ((x7802.a + x7802.b) - x7470)]) rfl rfl RCs.nil)
        obtain ⟨hc7852, hM⟩ := chk_ok hM
        refine wl_append_src Tryz.underlying26 ty3 rfl (by decide) hS7850 (a := _) (nn := _) (c := _) rfl (a2 := _) (k2 := _) (c2 := _) rfl (.there (.there (.there (.there .here)))) (row_src (hS7850.toHeld.own .here) (RCs.allOne RInt.one (by decide) hrc7851)) (lim_b hc7852 rfl) (lim_a hc7852) ?_
        intro a7853 c7854 w7855 hS7856
        have hrc7858 := RCs.append hrc7450 hrc7851
        generalize cs7448 ++ [.int .i64 ((x7802.a + x7802.b) - x7470)] = cs7859 at hS7856 hrc7858
        have hS7860 := hS7856.weaken (.cons_cons _ (.cons _ (.cons_cons _ (.cons_cons _ (.cons_cons _ (.cons_cons _ (.cons_cons _ (.refl _))))))))
        refine wl_h hS7860.toHeld (r_assign (v := .slice _ _ _) rfl) <| wl_nil <| c_seq <| c_region <| wl_h hS7860.toHeld (r_move (v := .slice _ _ _) rfl) ?_
        refine wl_h hS7860.toHeld (r_move (v := .int .i64 _) rfl) <| wl_h hS7860.toHeld (r_fieldAddr fld47_1 (b := _) (o := _) rfl) <| wl_h hS7860.toHeld (r_box ty3 (k := 1) (.there .here) rfl rfl rfl (v := .int .i64 _) rfl) <| wl_h hS7860.toHeld (r_move (v := .int .i64 _) rfl) <| wl_h hS7860.toHeld (r_eql (a := _) (b := _) rfl rfl) ?_
        refine wl_h hS7860.toHeld (r_build ty44 st44 (ps := [(0, [.int .i64 _]), (1, [.bool _])]) rfl rfl (cs := [.int .i64 _, .bool _]) rfl) <| wl_h hS7860.toHeld (r_build ty148 st148 (ps := [(0, [.int .i64 _, .bool _]), (1, [.bool _])]) rfl rfl (cs := [.int .i64 _, .bool _, .bool _]) rfl) <| wl_buildSlice Tryz.underlying149 ty148 rfl (by decide) (by decide) hS7860 (ps := [(0, [.int .i64 _, .bool _, .bool _])]) rfl rfl (cs := [.int .i64 _, .bool _, .bool _]) rfl rfl (by decide) ?_
        intro b7862 w7863 hS7864
        have hrc7865 : RCs 3 RCome m [.int .i64 x7786, .bool (decide (x7802.b = x7470)), .bool true] ([(⟨(⟨x7786, decide (x7802.b = x7470)⟩ : Step), true⟩ : Come)] : List Come) := (RCs.cons (d := [.int .i64 x7786, .bool (decide (x7802.b = x7470)), .bool true]) rfl rfl RCs.nil)
        obtain ⟨hc7866, hM⟩ := chk_ok hM
        refine wl_append_src Tryz.underlying149 ty148 rfl (by decide) hS7864 (a := _) (nn := _) (c := _) rfl (a2 := _) (k2 := _) (c2 := _) rfl (.there (.there (.there (.there .here)))) (row_src (hS7864.toHeld.own .here) (RCs.allOne RCome.one (by decide) hrc7865)) (lim_b hc7866 rfl) (lim_a hc7866) ?_
        intro a7867 c7868 w7869 hS7870
        have hrc7872 := RCs.append hrc7443 hrc7865
        generalize cs7441 ++ [.int .i64 x7786, .bool (decide (x7802.b = x7470)), .bool true] = cs7873 at hS7870 hrc7872
        have hS7874 := hS7870.weaken (.cons_cons _ (.cons _ (.cons_cons _ (.cons_cons _ (.cons_cons _ (.cons_cons _ (.cons_cons _ (.refl _))))))))
        refine wl_h hS7874.toHeld (r_assign (v := .slice _ _ _) rfl) <| wl_nil <| c_exit <| q_miss (by decide) <| q_loopx <| q_miss (by decide) ?_
        refine q_hit <| c_nil <| q_loop ?_
        have hS7875 := hS7874.weaken (.cons_cons _ (.cons_cons _ (.cons _ (.cons_cons _ (.cons_cons _ (.cons_cons _ (.refl _)))))))
        have hS7876 := hS7875.front (.there (.there (.there (.there .here))))
        have hS7877 := hS7876.front (.there (.there (.there (.there .here))))
        have hS7878 := hS7877.front (.there (.there (.there .here)))
        have hS7879 := hS7878.front (.there (.there (.there .here)))
        have hS7880 := hS7879.front (.there (.there (.there (.there .here))))
        exact ⟨k_1, Nat.lt_succ_self _, l7430, (l7437 ++ [(⟨(⟨x7786, decide (x7802.b = x7470)⟩ : Step), true⟩ : Come)]), (l7444 ++ [(x7802.a + x7802.b) - x7470]), (l7451.set x7786.toNat (x7826 - 1)), a7431, l7430.length, c7433, cs7434, a7867, (l7437.length + 1), c7868, cs7873, a7853, (l7444.length + 1), c7854, cs7859, (some ⟨b7820, 0, none⟩), l7451.length, c7454, cs7844, hM, row_n (hS7880.toHeld.own .here) hrc7436 (by decide), hrc7436, row_n (hS7880.toHeld.own (.there .here)) hrc7872 (by decide), hrc7872, row_n (hS7880.toHeld.own (.there (.there .here))) hrc7858 (by decide), hrc7858, row_n (hS7880.toHeld.own (.there (.there (.there .here)))) hrc7843 (by decide), hrc7843, hS7880, rfl, rfl, rfl, rfl, rfl, rfl⟩
       ·replace hM := bif_f h7825 hM
        refine wl_on (t := 83) rfl rfl ?_
        refine wl_h hS7815.toHeld (r_fieldAddr fld47_1 (b := _) (o := _) rfl) <| wl_on (t := 83) rfl rfl ?_
        refine wl_h hS7815.toHeld (r_box ty3 (k := 1) .here rfl rfl rfl (v := .int .i64 _) rfl) <| wl_on (t := 83) rfl rfl ?_
        refine wl_h hS7815.toHeld (r_move (v := .int .i64 _) rfl) <| wl_on (t := 83) rfl rfl ?_
        refine wl_h hS7815.toHeld (r_eql (a := _) (b := _) rfl rfl) <| wl_on (t := 78) rfl rfl ?_
        refine wl_h hS7815.toHeld (r_pick_f rfl (v := .bool _) rfl) <| wl_h hS7815.toHeld (r_pick_t rfl (v := .bool _) rfl) <| wl_nil <| c_cond (c := _) rfl (fun h7881 => ?_) (fun h7881 => ?_)
        ·replace hM := bif_t h7881 hM
         refine c_seq <| c_region <| wl_h hS7815.toHeld (r_move (v := .slice _ _ _) rfl) <| wl_h hS7815.toHeld (r_move (v := .int .i64 _) rfl) ?_
         obtain ⟨x7882, hx7883, h7884, h7885, hM⟩ := getK_ok hM
         obtain ⟨es7886, hes7887, hR7888⟩ := row_read hrc7457 hx7883
         obtain rfl := hR7888
         refine wl_h hS7815.toHeld (r_indexAddr Tryz.underlying26 ty3 (b := _) (o := _) (n := _) (c := _) (i := x7786) rfl rfl h7884 (row_lt (hS7815.toHeld.own (.there (.there (.there (.there .here))))) hrc7457 (by decide) h7885)) <| wl_h hS7815.toHeld (r_row ty3 (k := 0) (i := x7786.toNat) (.there (.there (.there (.there .here)))) rfl rfl (row_room hrc7457 hx7883) hes7887 rfl (v := .int .i64 _) rfl) ?_
         obtain ⟨hc7889, hM⟩ := chk_ok hM
         refine wl_h hS7815.toHeld (r_sub (a := _) (b := _) rfl rfl (ok_lo hc7889) (ok_hi hc7889)) ?_
         obtain ⟨x7890, hx7891, h7892, h7893, hM⟩ := getK_ok hM
         obtain ⟨es7894, hes7895, hR7896⟩ := row_read hrc7457 hx7891
         obtain rfl := hR7896
         refine wl_h hS7815.toHeld (r_indexAddr Tryz.underlying26 ty3 (b := _) (o := _) (n := _) (c := _) (i := x7786) rfl rfl h7892 (row_lt (hS7815.toHeld.own (.there (.there (.there (.there .here))))) hrc7457 (by decide) h7893)) <| wl_store_row ty3 hS7815 rfl (v := .int .i64 _) rfl (vs := [.int .i64 _]) rfl rfl rfl (.there (.there (.there (.there .here)))) (Nat.le_trans (by simp only [Nat.zero_add]; omega) (row_room hrc7457 hx7891)) ?_
         intro w7897 hS7898
         have hrc7899 := RCs.seti hrc7457 hx7891 (vs := [.int .i64 (x7882 - 1)]) (y := x7882 - 1) rfl rfl
         generalize spl cs7455 (0 + x7786.toNat * 1) [.int .i64 (x7882 - 1)] = cs7900 at hS7898 hrc7899
         refine wl_nil <| c_seq <| c_region <| wl_h hS7898.toHeld (r_move (v := .slice _ _ _) rfl) <| wl_h hS7898.toHeld (r_fieldAddr fld47_0 (b := _) (o := _) rfl) ?_
         refine wl_h hS7898.toHeld (r_box ty3 (k := 0) .here rfl rfl rfl (v := .int .i64 _) rfl) <| wl_h hS7898.toHeld (r_fieldAddr fld47_1 (b := _) (o := _) rfl) <| wl_h hS7898.toHeld (r_box ty3 (k := 1) .here rfl rfl rfl (v := .int .i64 _) rfl) ?_
         obtain ⟨hc7901, hM⟩ := chk_ok hM
         refine wl_h hS7898.toHeld (r_add (a := _) (b := _) rfl rfl (ok_lo hc7901) (ok_hi hc7901)) <| wl_h hS7898.toHeld (r_move (v := .int .i64 _) rfl) ?_
         obtain ⟨hc7902, hM⟩ := chk_ok hM
         refine wl_h hS7898.toHeld (r_sub (a := _) (b := _) rfl rfl (ok_lo hc7902) (ok_hi hc7902)) <| wl_buildSlice Tryz.underlying26 ty3 rfl (by decide) (by decide) hS7898 (ps := [(0, [.int .i64 _])]) rfl rfl (cs := [.int .i64 _]) rfl rfl (by decide) ?_
         intro b7904 w7905 hS7906
         have hrc7907 : RCs 1 RInt m [.int .i64 ((x7802.a + x7802.b) - x7470)] ([(x7802.a + x7802.b) - x7470] : List Int) := (RCs.cons (d := [.int .i64 ((x7802.a + x7802.b) - x7470)]) rfl rfl RCs.nil)
         obtain ⟨hc7908, hM⟩ := chk_ok hM
         refine wl_append_src Tryz.underlying26 ty3 rfl (by decide) hS7906 (a := _) (nn := _) (c := _) rfl (a2 := _) (k2 := _) (c2 := _) rfl (.there (.there (.there (.there .here)))) (row_src (hS7906.toHeld.own .here) (RCs.allOne RInt.one (by decide) hrc7907)) (lim_b hc7908 rfl) (lim_a hc7908) ?_
         intro a7909 c7910 w7911 hS7912
         have hrc7914 := RCs.append hrc7450 hrc7907
         generalize cs7448 ++ [.int .i64 ((x7802.a + x7802.b) - x7470)] = cs7915 at hS7912 hrc7914
         have hS7916 := hS7912.weaken (.cons_cons _ (.cons _ (.cons_cons _ (.cons_cons _ (.cons_cons _ (.cons_cons _ (.cons_cons _ (.refl _))))))))
         refine wl_h hS7916.toHeld (r_assign (v := .slice _ _ _) rfl) <| wl_nil <| c_seq <| c_region <| wl_h hS7916.toHeld (r_move (v := .slice _ _ _) rfl) ?_
         refine wl_h hS7916.toHeld (r_move (v := .int .i64 _) rfl) <| wl_h hS7916.toHeld (r_fieldAddr fld47_1 (b := _) (o := _) rfl) <| wl_h hS7916.toHeld (r_box ty3 (k := 1) (.there .here) rfl rfl rfl (v := .int .i64 _) rfl) <| wl_h hS7916.toHeld (r_move (v := .int .i64 _) rfl) <| wl_h hS7916.toHeld (r_eql (a := _) (b := _) rfl rfl) ?_
         refine wl_h hS7916.toHeld (r_build ty44 st44 (ps := [(0, [.int .i64 _]), (1, [.bool _])]) rfl rfl (cs := [.int .i64 _, .bool _]) rfl) <| wl_h hS7916.toHeld (r_build ty148 st148 (ps := [(0, [.int .i64 _, .bool _]), (1, [.bool _])]) rfl rfl (cs := [.int .i64 _, .bool _, .bool _]) rfl) <| wl_buildSlice Tryz.underlying149 ty148 rfl (by decide) (by decide) hS7916 (ps := [(0, [.int .i64 _, .bool _, .bool _])]) rfl rfl (cs := [.int .i64 _, .bool _, .bool _]) rfl rfl (by decide) ?_
         intro b7918 w7919 hS7920
         have hrc7921 : RCs 3 RCome m [.int .i64 x7786, .bool (decide (x7802.b = x7470)), .bool true] ([(⟨(⟨x7786, decide (x7802.b = x7470)⟩ : Step), true⟩ : Come)] : List Come) := (RCs.cons (d := [.int .i64 x7786, .bool (decide (x7802.b = x7470)), .bool true]) rfl rfl RCs.nil)
         obtain ⟨hc7922, hM⟩ := chk_ok hM
         refine wl_append_src Tryz.underlying149 ty148 rfl (by decide) hS7920 (a := _) (nn := _) (c := _) rfl (a2 := _) (k2 := _) (c2 := _) rfl (.there (.there (.there (.there .here)))) (row_src (hS7920.toHeld.own .here) (RCs.allOne RCome.one (by decide) hrc7921)) (lim_b hc7922 rfl) (lim_a hc7922) ?_
         intro a7923 c7924 w7925 hS7926
         have hrc7928 := RCs.append hrc7443 hrc7921
         generalize cs7441 ++ [.int .i64 x7786, .bool (decide (x7802.b = x7470)), .bool true] = cs7929 at hS7926 hrc7928
         have hS7930 := hS7926.weaken (.cons_cons _ (.cons _ (.cons_cons _ (.cons_cons _ (.cons_cons _ (.cons_cons _ (.cons_cons _ (.refl _))))))))
         refine wl_h hS7930.toHeld (r_assign (v := .slice _ _ _) rfl) <| wl_nil <| c_exit <| q_miss (by decide) <| q_loopx <| q_miss (by decide) ?_
         refine q_hit <| c_nil <| q_loop ?_
         have hS7931 := hS7930.weaken (.cons_cons _ (.cons_cons _ (.cons _ (.cons_cons _ (.cons_cons _ (.cons_cons _ (.refl _)))))))
         have hS7932 := hS7931.front (.there (.there (.there (.there .here))))
         have hS7933 := hS7932.front (.there (.there (.there (.there .here))))
         have hS7934 := hS7933.front (.there (.there (.there .here)))
         have hS7935 := hS7934.front (.there (.there (.there .here)))
         have hS7936 := hS7935.front (.there (.there (.there (.there .here))))
         exact ⟨k_1, Nat.lt_succ_self _, l7430, (l7437 ++ [(⟨(⟨x7786, decide (x7802.b = x7470)⟩ : Step), true⟩ : Come)]), (l7444 ++ [(x7802.a + x7802.b) - x7470]), (l7451.set x7786.toNat (x7882 - 1)), a7431, l7430.length, c7433, cs7434, a7923, (l7437.length + 1), c7924, cs7929, a7909, (l7444.length + 1), c7910, cs7915, (some ⟨b7820, 0, none⟩), l7451.length, c7454, cs7900, hM, row_n (hS7936.toHeld.own .here) hrc7436 (by decide), hrc7436, row_n (hS7936.toHeld.own (.there .here)) hrc7928 (by decide), hrc7928, row_n (hS7936.toHeld.own (.there (.there .here))) hrc7914 (by decide), hrc7914, row_n (hS7936.toHeld.own (.there (.there (.there .here)))) hrc7899 (by decide), hrc7899, hS7936, rfl, rfl, rfl, rfl, rfl, rfl⟩
        ·replace hM := bif_f h7881 hM
         refine c_skip <| c_nil <| q_norm <| c_region ?_
         obtain ⟨hc7937, hM⟩ := chk_ok hM
         refine wl_h hS7815.toHeld (r_add (a := _) (b := _) rfl rfl (ok_lo hc7937) (ok_hi hc7937)) <| wl_h hS7815.toHeld (r_move (v := .int .i64 _) rfl) <| wl_nil <| c_nil <| q_loop ?_
         have hS7938 := hS7815.weaken (.cons _ (.cons_cons _ (.cons_cons _ (.cons_cons _ (.cons_cons _ (.cons_cons _ (.refl _)))))))
         exact ⟨k_2, Nat.lt_succ_self _, x7786 + 1, hM, hS7938, rfl, rfl, rfl, rfl, rfl, rfl, rfl, rfl, rfl, rfl⟩
      ·replace hM := bif_f h7824 hM
       refine wl_off (t := 78) (b := false) rfl rfl rfl ?_
       refine wl_off (t := 78) (b := false) rfl rfl rfl ?_
       refine wl_off (t := 78) (b := false) rfl rfl rfl ?_
       refine wl_off (t := 78) (b := false) rfl rfl rfl ?_
       refine wl_off (t := 78) (b := false) rfl rfl rfl ?_
       refine wl_none (t := 83) rfl rfl ?_
       refine wl_none (t := 83) rfl rfl ?_
       refine wl_none (t := 83) rfl rfl ?_
       refine wl_none (t := 83) rfl rfl ?_
       refine wl_off (t := 78) (b := false) rfl rfl rfl ?_
       refine wl_h hS7815.toHeld (r_pick_f rfl (v := .bool _) rfl) <| wl_nil <| c_false rfl <| c_skip <| c_nil <| q_norm <| c_region ?_
       obtain ⟨hc7939, hM⟩ := chk_ok hM
       refine wl_h hS7815.toHeld (r_add (a := _) (b := _) rfl rfl (ok_lo hc7939) (ok_hi hc7939)) <| wl_h hS7815.toHeld (r_move (v := .int .i64 _) rfl) <| wl_nil <| c_nil <| q_loop ?_
       have hS7940 := hS7815.weaken (.cons _ (.cons_cons _ (.cons_cons _ (.cons_cons _ (.cons_cons _ (.cons_cons _ (.refl _)))))))
       exact ⟨k_2, Nat.lt_succ_self _, x7786 + 1, hM, hS7940, rfl, rfl, rfl, rfl, rfl, rfl, rfl, rfl, rfl, rfl⟩
     ·replace hM := bif_f h7801 hM
      refine c_exit <| q_loopx <| q_hit <| c_seq <| c_seq <| c_region <| wl_h hS7790.toHeld (r_move (v := .slice _ _ _) rfl) ?_
      refine wl_h hS7790.toHeld (r_move (v := .slice _ _ _) rfl) <| wl_h hS7790.toHeld (r_len Tryz.underlying149 (a := _) (n := _) (c := _) rfl) ?_
      obtain ⟨hc7941, hM⟩ := chk_ok hM
      refine wl_h hS7790.toHeld (r_sub (a := _) (b := _) rfl rfl (ok_lo hc7941) (ok_hi hc7941)) ?_
      obtain ⟨x7942, hx7943, h7944, h7945, hM⟩ := getK_ok hM
      obtain ⟨b7946, rfl⟩ := row_some (hS7790.toHeld.own (.there .here)) hrc7443 (by decide) h7944 h7945
      obtain ⟨es7947, hes7948, hR7949⟩ := row_read hrc7443 hx7943
      obtain rfl := hR7949
      refine wl_h hS7790.toHeld (r_indexAddr Tryz.underlying149 ty148 (b := _) (o := _) (n := _) (c := _) (i := ((l7437.length : Nat) : Int) - 1) rfl rfl h7944 (row_lt (hS7790.toHeld.own (.there .here)) hrc7443 (by decide) h7945)) <| wl_h hS7790.toHeld (r_row ty148 (k := 0) (i := (((l7437.length : Nat) : Int) - 1).toNat) (.there .here) rfl rfl (row_room hrc7443 hx7943) hes7948 rfl (v := .agg #[.int .i64 _, .bool _, .bool _]) rfl) <| wl_alloc ty148 rfl hS7790 ?_
      intro b7950 w7951 hS7952
      refine wl_store_box ty148 hS7952 rfl (v := .agg #[.int .i64 _, .bool _, .bool _]) rfl (vs := [.int .i64 _, .bool _, .bool _]) rfl rfl rfl .here (cs' := [.int .i64 _, .bool _, .bool _]) rfl rfl ?_
      intro w7953 hS7954
      refine wl_nil <| c_seq <| c_region <| wl_h hS7954.toHeld (r_fieldAddr fld148_1 (b := _) (o := _) rfl) <| wl_h hS7954.toHeld (r_box ty4 (k := 2) .here rfl rfl rfl (v := .bool _) rfl) ?_
      refine wl_nil <| c_cond (c := _) rfl (fun h7955 => ?_) (fun h7955 => ?_)
      ·replace hM := bif_t h7955 hM
       refine c_region <| wl_h hS7954.toHeld (r_move (v := .slice _ _ _) rfl) <| wl_h hS7954.toHeld (r_fieldAddr fld148_0 (b := _) (o := _) rfl) <| wl_h hS7954.toHeld (r_box ty44 (k := 0) .here rfl rfl rfl (v := .agg #[.int .i64 _, .bool _]) rfl) <| wl_buildSlice Tryz.underlying45 ty44 rfl (by decide) (by decide) hS7954 (ps := [(0, [.int .i64 _, .bool _])]) rfl rfl (cs := [.int .i64 _, .bool _]) rfl rfl (by decide) ?_
       intro b7957 w7958 hS7959
       have hrc7960 : RCs 2 RStep m [.int .i64 x7942.step.street, .bool x7942.step.back] ([(⟨x7942.step.street, x7942.step.back⟩ : Step)] : List Step) := (RCs.cons (d := [.int .i64 x7942.step.street, .bool x7942.step.back]) rfl rfl RCs.nil)
       obtain ⟨hc7961, hM⟩ := chk_ok hM
       refine wl_append_src Tryz.underlying45 ty44 rfl (by decide) hS7959 (a := _) (nn := _) (c := _) rfl (a2 := _) (k2 := _) (c2 := _) rfl (.there (.there .here)) (row_src (hS7959.toHeld.own .here) (RCs.allOne RStep.one (by decide) hrc7960)) (lim_b hc7961 rfl) (lim_a hc7961) ?_
       intro a7962 c7963 w7964 hS7965
       have hrc7967 := RCs.append hrc7436 hrc7960
       generalize cs7434 ++ [.int .i64 x7942.step.street, .bool x7942.step.back] = cs7968 at hS7965 hrc7967
       have hS7969 := hS7965.weaken (.cons_cons _ (.cons _ (.cons_cons _ (.cons_cons _ (.cons_cons _ (.cons_cons _ (.cons_cons _ (.refl _))))))))
       refine wl_h hS7969.toHeld (r_assign (v := .slice _ _ _) rfl) <| wl_nil ?_
       obtain ⟨hc7986, hM⟩ := chk_ok hM
       obtain ⟨hc7987, hM⟩ := chk_ok hM
       obtain ⟨hc7988, hM⟩ := chk_ok hM
       obtain ⟨hc7993, hM⟩ := chk_ok hM
       have hH8011 := (hS7969.weaken (.cons_cons _ (.cons_cons _ (.cons _ (.cons _ (.cons_cons _ (.cons_cons _ (.refl _)))))))).toHeld
       refine c_drawJ (k := 12) (fun f w => ∃ (a7999 : Option Addr) (n8000 : Nat) (c8001 : Nat) (cs8002 : List Value) (a8005 : Option Addr) (n8006 : Nat) (c8007 : Nat) (cs8008 : List Value), n8000 = ((l7437.take (((l7437.length : Nat) : Int) - 1).toNat)).length ∧ RCs 3 RCome m cs8002 (l7437.take (((l7437.length : Nat) : Int) - 1).toNat) ∧ n8006 = ((l7444.take (((l7444.length : Nat) : Int) - 1).toNat)).length ∧ RCs 1 RInt m cs8008 (l7444.take (((l7444.length : Nat) : Int) - 1).toNat) ∧ St w m (.row (.slice a7962 (l7430.length + 1) c7963) 44 2 cs7968 :: .row (.slice a7999 n8000 c8001) 148 3 cs8002 :: .row (.slice a8005 n8006 c8007) 3 1 cs8008 :: .row (.slice a7452 l7451.length c7454) 3 1 cs7455 :: .box b10 41 [.int .i64 r3.corners, .slice a4 r3.streets.length c6] :: L) ∧ f 2 = .pointer (some ⟨b10, 0, none⟩) ∧ f 8 = .slice a7452 l7451.length c7454 ∧ f 9 = .int .i64 length5417 ∧ f 12 = .slice a8005 n8006 c8007 ∧ f 13 = .slice a7999 n8000 c8001 ∧ f 14 = .slice a7962 (l7430.length + 1) c7963) (fun w => Held w m (.row (.slice a7962 (l7430.length + 1) c7963) 44 2 cs7968 :: .box b7950 148 [.int .i64 x7942.step.street, .bool x7942.step.back, .bool x7942.any] :: .row (.slice a7452 l7451.length c7454) 3 1 cs7455 :: .box b10 41 [.int .i64 r3.corners, .slice a4 r3.streets.length c6] :: L)) mixed rfl ?_ ?_
       ·replace hH8011 := hH8011.drew1
        have hS8012 := hS7969.drew1
        refine d_v (i := 0) rfl (by kernel_rfl) rfl (r_move (v := .slice _ _ _) rfl) hH8011 ?_
        refine d_v (i := 1) rfl (by kernel_rfl) rfl (r_move (v := .slice _ _ _) rfl) hH8011 ?_
        refine d_v (i := 2) rfl (by kernel_rfl) rfl (r_len Tryz.underlying26 (a := _) (n := _) (c := _) rfl) hH8011 ?_
        refine d_v (i := 3) rfl (by kernel_rfl) rfl (r_sub (a := _) (b := _) rfl rfl (ok_lo hc7986) (ok_hi hc7986)) hH8011 ?_
        refine d_v (i := 5) rfl (by kernel_rfl) rfl (r_move (v := .slice _ _ _) rfl) hH8011 ?_
        refine d_v (i := 6) rfl (by kernel_rfl) rfl (r_move (v := .slice _ _ _) rfl) hH8011 ?_
        refine d_v (i := 7) rfl (by kernel_rfl) rfl (r_len Tryz.underlying149 (a := _) (n := _) (c := _) rfl) hH8011 ?_
        refine d_v (i := 8) rfl (by kernel_rfl) rfl (r_sub (a := _) (b := _) rfl rfl (ok_lo hc7987) (ok_hi hc7987)) hH8011 ?_
        refine d_all (rs := [4, 9]) (by kernel_rfl) (by simp) (fun j hj o ho => ?_)
        simp only [List.mem_cons, List.not_mem_nil, or_false] at hj
        rcases hj with rfl | rfl
        ·cases ho
         refine wl_h hS8012.toHeld (r_slice_hi Tryz.underlying26 ty3 (a := _) (n := _) (c := _) (h := ((l7444.length : Nat) : Int) - 1) rfl rfl (upto_0 hc7988) (upto_c hc7988 (row_cap (hS8012.toHeld.own (.there (.there (.there .here))))))) ?_
         have hrc8014 := RCs.take hrc7450 (((l7444.length : Nat) : Int) - 1).toNat (by rw [← row_n (hS8012.toHeld.own (.there (.there (.there .here)))) hrc7450 (by decide)]; exact upto_n hc7988)
         have hS8013 := hS8012.trunc (k := (((l7444.length : Nat) : Int) - 1).toNat) (upto_n hc7988) (.there (.there (.there .here)))
         generalize cs7448.take ((((l7444.length : Nat) : Int) - 1).toNat * 1) = cs8015 at hS8013 hrc8014
         refine wl_nil ?_
         have hH8016 := hS8013.toHeld.mono (Mem.le_refl _) (List.Sublist.subset (.cons_cons _ (.cons_cons _ (.cons _ (.cons _ (.cons_cons _ (.cons_cons _ (.refl _))))))))
         refine ⟨hH8016, ?_⟩
         refine d_v (i := 10) rfl (by kernel_rfl) rfl (r_assign (v := .slice _ _ _) rfl) hH8016 ?_
         refine d_all (rs := [9]) (by kernel_rfl) (by simp) (fun j hj o ho => ?_)
         obtain rfl : j = 9 := by simpa using hj
         cases ho
         refine wl_h hS8013.toHeld (r_slice_hi Tryz.underlying149 ty148 (a := _) (n := _) (c := _) (h := ((l7437.length : Nat) : Int) - 1) rfl rfl (upto_0 hc7993) (upto_c hc7993 (row_cap (hS8013.toHeld.own (.there (.there .here)))))) ?_
         have hrc8018 := RCs.take hrc7443 (((l7437.length : Nat) : Int) - 1).toNat (by rw [← row_n (hS8013.toHeld.own (.there (.there .here))) hrc7443 (by decide)]; exact upto_n hc7993)
         have hS8017 := hS8013.trunc (k := (((l7437.length : Nat) : Int) - 1).toNat) (upto_n hc7993) (.there (.there .here))
         generalize cs7441.take ((((l7437.length : Nat) : Int) - 1).toNat * 3) = cs8019 at hS8017 hrc8018
         refine wl_nil ?_
         have hH8020 := hS8017.toHeld.mono (Mem.le_refl _) (List.Sublist.subset (.cons_cons _ (.cons_cons _ (.cons _ (.cons _ (.cons_cons _ (.cons_cons _ (.refl _))))))))
         refine ⟨hH8020, ?_⟩
         refine d_v (i := 11) rfl (by kernel_rfl) rfl (r_assign (v := .slice _ _ _) rfl) hH8020 ?_
         refine d_end (by kernel_rfl) ?_
         have hS8021 := hS8017.weaken (.cons_cons _ (.cons _ (.cons_cons _ (.cons_cons _ (.cons_cons _ (.cons_cons _ (.refl _)))))))
         exact ⟨_, _, _, _, _, _, _, _, row_n (hS8021.toHeld.own (.there .here)) hrc8018 (by decide), hrc8018, row_n (hS8021.toHeld.own (.there (.there .here))) hrc8014 (by decide), hrc8014, hS8021, rfl, rfl, rfl, rfl, rfl, rfl⟩
        ·cases ho
         refine wl_h hS8012.toHeld (r_slice_hi Tryz.underlying149 ty148 (a := _) (n := _) (c := _) (h := ((l7437.length : Nat) : Int) - 1) rfl rfl (upto_0 hc7993) (upto_c hc7993 (row_cap (hS8012.toHeld.own (.there (.there .here)))))) ?_
         have hrc8023 := RCs.take hrc7443 (((l7437.length : Nat) : Int) - 1).toNat (by rw [← row_n (hS8012.toHeld.own (.there (.there .here))) hrc7443 (by decide)]; exact upto_n hc7993)
         have hS8022 := hS8012.trunc (k := (((l7437.length : Nat) : Int) - 1).toNat) (upto_n hc7993) (.there (.there .here))
         generalize cs7441.take ((((l7437.length : Nat) : Int) - 1).toNat * 3) = cs8024 at hS8022 hrc8023
         refine wl_nil ?_
         have hH8025 := hS8022.toHeld.mono (Mem.le_refl _) (List.Sublist.subset (.cons_cons _ (.cons_cons _ (.cons _ (.cons _ (.cons_cons _ (.cons_cons _ (.refl _))))))))
         refine ⟨hH8025, ?_⟩
         refine d_all (rs := [4]) (by kernel_rfl) (by simp) (fun j hj o ho => ?_)
         obtain rfl : j = 4 := by simpa using hj
         cases ho
         refine wl_h hS8022.toHeld (r_slice_hi Tryz.underlying26 ty3 (a := _) (n := _) (c := _) (h := ((l7444.length : Nat) : Int) - 1) rfl rfl (upto_0 hc7988) (upto_c hc7988 (row_cap (hS8022.toHeld.own (.there (.there (.there .here))))))) ?_
         have hrc8027 := RCs.take hrc7450 (((l7444.length : Nat) : Int) - 1).toNat (by rw [← row_n (hS8022.toHeld.own (.there (.there (.there .here)))) hrc7450 (by decide)]; exact upto_n hc7988)
         have hS8026 := hS8022.trunc (k := (((l7444.length : Nat) : Int) - 1).toNat) (upto_n hc7988) (.there (.there (.there .here)))
         generalize cs7448.take ((((l7444.length : Nat) : Int) - 1).toNat * 1) = cs8028 at hS8026 hrc8027
         refine wl_nil ?_
         have hH8029 := hS8026.toHeld.mono (Mem.le_refl _) (List.Sublist.subset (.cons_cons _ (.cons_cons _ (.cons _ (.cons _ (.cons_cons _ (.cons_cons _ (.refl _))))))))
         refine ⟨hH8029, ?_⟩
         refine d_v (i := 10) rfl (by kernel_rfl) rfl (r_assign (v := .slice _ _ _) rfl) hH8029 ?_
         refine d_v (i := 11) rfl (by kernel_rfl) rfl (r_assign (v := .slice _ _ _) rfl) hH8029 ?_
         refine d_end (by kernel_rfl) ?_
         have hS8030 := hS8026.weaken (.cons_cons _ (.cons _ (.cons_cons _ (.cons_cons _ (.cons_cons _ (.cons_cons _ (.refl _)))))))
         exact ⟨_, _, _, _, _, _, _, _, row_n (hS8030.toHeld.own (.there .here)) hrc8023 (by decide), hrc8023, row_n (hS8030.toHeld.own (.there (.there .here))) hrc8027 (by decide), hrc8027, hS8030, rfl, rfl, rfl, rfl, rfl, rfl⟩
       ·rintro f8038 w8039 ⟨a7999, n8000, c8001, cs8002, a8005, n8006, c8007, cs8008, hn8003, hrc8004, hn8009, hrc8010, hS8031, e8032, e8033, e8034, e8035, e8036, e8037⟩
        subst hn8003
        subst hn8009
        refine c_know (t := 2) e8032 <| c_know (t := 8) e8033 <| c_know (t := 9) e8034 <| c_know (t := 12) e8035 <| c_know (t := 13) e8036 ?_
        refine c_know (t := 14) e8037 ?_
        clear e8032 e8033 e8034 e8035 e8036 e8037
        refine c_nil <| q_norm <| c_nil <| q_loop ?_
        exact ⟨k_1, Nat.lt_succ_self _, (l7430 ++ [(⟨x7942.step.street, x7942.step.back⟩ : Step)]), (l7437.take (((l7437.length : Nat) : Int) - 1).toNat), (l7444.take (((l7444.length : Nat) : Int) - 1).toNat), l7451, a7962, (l7430.length + 1), c7963, cs7968, a7999, ((l7437.take (((l7437.length : Nat) : Int) - 1).toNat)).length, c8001, cs8002, a8005, ((l7444.take (((l7444.length : Nat) : Int) - 1).toNat)).length, c8007, cs8008, a7452, l7451.length, c7454, cs7455, hM, row_n (hS8031.toHeld.own .here) hrc7967 (by decide), hrc7967, row_n (hS8031.toHeld.own (.there .here)) hrc8004 (by decide), hrc8004, row_n (hS8031.toHeld.own (.there (.there .here))) hrc8010 (by decide), hrc8010, row_n (hS8031.toHeld.own (.there (.there (.there .here)))) hrc7457 (by decide), hrc7457, hS8031, rfl, rfl, rfl, rfl, rfl, rfl⟩
      ·replace hM := bif_f h7955 hM
       refine c_skip ?_
       obtain ⟨hc8056, hM⟩ := chk_ok hM
       obtain ⟨hc8057, hM⟩ := chk_ok hM
       obtain ⟨hc8058, hM⟩ := chk_ok hM
       obtain ⟨hc8063, hM⟩ := chk_ok hM
       have hH8081 := (hS7954.weaken (.cons_cons _ (.cons_cons _ (.cons _ (.cons _ (.cons_cons _ (.cons_cons _ (.refl _)))))))).toHeld
       refine c_drawJ (k := 12) (fun f w => ∃ (a8069 : Option Addr) (n8070 : Nat) (c8071 : Nat) (cs8072 : List Value) (a8075 : Option Addr) (n8076 : Nat) (c8077 : Nat) (cs8078 : List Value), n8070 = ((l7437.take (((l7437.length : Nat) : Int) - 1).toNat)).length ∧ RCs 3 RCome m cs8072 (l7437.take (((l7437.length : Nat) : Int) - 1).toNat) ∧ n8076 = ((l7444.take (((l7444.length : Nat) : Int) - 1).toNat)).length ∧ RCs 1 RInt m cs8078 (l7444.take (((l7444.length : Nat) : Int) - 1).toNat) ∧ St w m (.row (.slice a7431 l7430.length c7433) 44 2 cs7434 :: .row (.slice a8069 n8070 c8071) 148 3 cs8072 :: .row (.slice a8075 n8076 c8077) 3 1 cs8078 :: .row (.slice a7452 l7451.length c7454) 3 1 cs7455 :: .box b10 41 [.int .i64 r3.corners, .slice a4 r3.streets.length c6] :: L) ∧ f 2 = .pointer (some ⟨b10, 0, none⟩) ∧ f 8 = .slice a7452 l7451.length c7454 ∧ f 9 = .int .i64 length5417 ∧ f 12 = .slice a8075 n8076 c8077 ∧ f 13 = .slice a8069 n8070 c8071 ∧ f 14 = .slice a7431 l7430.length c7433) (fun w => Held w m (.box b7950 148 [.int .i64 x7942.step.street, .bool x7942.step.back, .bool x7942.any] :: .row (.slice a7431 l7430.length c7433) 44 2 cs7434 :: .row (.slice a7452 l7451.length c7454) 3 1 cs7455 :: .box b10 41 [.int .i64 r3.corners, .slice a4 r3.streets.length c6] :: L)) mixed rfl ?_ ?_
       ·replace hH8081 := hH8081.drew1
        have hS8082 := hS7954.drew1
        refine d_v (i := 0) rfl (by kernel_rfl) rfl (r_move (v := .slice _ _ _) rfl) hH8081 ?_
        refine d_v (i := 1) rfl (by kernel_rfl) rfl (r_move (v := .slice _ _ _) rfl) hH8081 ?_
        refine d_v (i := 2) rfl (by kernel_rfl) rfl (r_len Tryz.underlying26 (a := _) (n := _) (c := _) rfl) hH8081 ?_
        refine d_v (i := 3) rfl (by kernel_rfl) rfl (r_sub (a := _) (b := _) rfl rfl (ok_lo hc8056) (ok_hi hc8056)) hH8081 ?_
        refine d_v (i := 5) rfl (by kernel_rfl) rfl (r_move (v := .slice _ _ _) rfl) hH8081 ?_
        refine d_v (i := 6) rfl (by kernel_rfl) rfl (r_move (v := .slice _ _ _) rfl) hH8081 ?_
        refine d_v (i := 7) rfl (by kernel_rfl) rfl (r_len Tryz.underlying149 (a := _) (n := _) (c := _) rfl) hH8081 ?_
        refine d_v (i := 8) rfl (by kernel_rfl) rfl (r_sub (a := _) (b := _) rfl rfl (ok_lo hc8057) (ok_hi hc8057)) hH8081 ?_
        refine d_all (rs := [4, 9]) (by kernel_rfl) (by simp) (fun j hj o ho => ?_)
        simp only [List.mem_cons, List.not_mem_nil, or_false] at hj
        rcases hj with rfl | rfl
        ·cases ho
         refine wl_h hS8082.toHeld (r_slice_hi Tryz.underlying26 ty3 (a := _) (n := _) (c := _) (h := ((l7444.length : Nat) : Int) - 1) rfl rfl (upto_0 hc8058) (upto_c hc8058 (row_cap (hS8082.toHeld.own (.there (.there (.there .here))))))) ?_
         have hrc8084 := RCs.take hrc7450 (((l7444.length : Nat) : Int) - 1).toNat (by rw [← row_n (hS8082.toHeld.own (.there (.there (.there .here)))) hrc7450 (by decide)]; exact upto_n hc8058)
         have hS8083 := hS8082.trunc (k := (((l7444.length : Nat) : Int) - 1).toNat) (upto_n hc8058) (.there (.there (.there .here)))
         generalize cs7448.take ((((l7444.length : Nat) : Int) - 1).toNat * 1) = cs8085 at hS8083 hrc8084
         refine wl_nil ?_
         have hH8086 := hS8083.toHeld.mono (Mem.le_refl _) (List.Sublist.subset (.cons_cons _ (.cons_cons _ (.cons _ (.cons _ (.cons_cons _ (.cons_cons _ (.refl _))))))))
         refine ⟨hH8086, ?_⟩
         refine d_v (i := 10) rfl (by kernel_rfl) rfl (r_assign (v := .slice _ _ _) rfl) hH8086 ?_
         refine d_all (rs := [9]) (by kernel_rfl) (by simp) (fun j hj o ho => ?_)
         obtain rfl : j = 9 := by simpa using hj
         cases ho
         refine wl_h hS8083.toHeld (r_slice_hi Tryz.underlying149 ty148 (a := _) (n := _) (c := _) (h := ((l7437.length : Nat) : Int) - 1) rfl rfl (upto_0 hc8063) (upto_c hc8063 (row_cap (hS8083.toHeld.own (.there (.there .here)))))) ?_
         have hrc8088 := RCs.take hrc7443 (((l7437.length : Nat) : Int) - 1).toNat (by rw [← row_n (hS8083.toHeld.own (.there (.there .here))) hrc7443 (by decide)]; exact upto_n hc8063)
         have hS8087 := hS8083.trunc (k := (((l7437.length : Nat) : Int) - 1).toNat) (upto_n hc8063) (.there (.there .here))
         generalize cs7441.take ((((l7437.length : Nat) : Int) - 1).toNat * 3) = cs8089 at hS8087 hrc8088
         refine wl_nil ?_
         have hH8090 := hS8087.toHeld.mono (Mem.le_refl _) (List.Sublist.subset (.cons_cons _ (.cons_cons _ (.cons _ (.cons _ (.cons_cons _ (.cons_cons _ (.refl _))))))))
         refine ⟨hH8090, ?_⟩
         refine d_v (i := 11) rfl (by kernel_rfl) rfl (r_assign (v := .slice _ _ _) rfl) hH8090 ?_
         refine d_end (by kernel_rfl) ?_
         have hS8091 := hS8087.weaken (.cons _ (.cons_cons _ (.cons_cons _ (.cons_cons _ (.cons_cons _ (.cons_cons _ (.refl _)))))))
         exact ⟨_, _, _, _, _, _, _, _, row_n (hS8091.toHeld.own (.there .here)) hrc8088 (by decide), hrc8088, row_n (hS8091.toHeld.own (.there (.there .here))) hrc8084 (by decide), hrc8084, hS8091, rfl, rfl, rfl, rfl, rfl, rfl⟩
        ·cases ho
         refine wl_h hS8082.toHeld (r_slice_hi Tryz.underlying149 ty148 (a := _) (n := _) (c := _) (h := ((l7437.length : Nat) : Int) - 1) rfl rfl (upto_0 hc8063) (upto_c hc8063 (row_cap (hS8082.toHeld.own (.there (.there .here)))))) ?_
         have hrc8093 := RCs.take hrc7443 (((l7437.length : Nat) : Int) - 1).toNat (by rw [← row_n (hS8082.toHeld.own (.there (.there .here))) hrc7443 (by decide)]; exact upto_n hc8063)
         have hS8092 := hS8082.trunc (k := (((l7437.length : Nat) : Int) - 1).toNat) (upto_n hc8063) (.there (.there .here))
         generalize cs7441.take ((((l7437.length : Nat) : Int) - 1).toNat * 3) = cs8094 at hS8092 hrc8093
         refine wl_nil ?_
         have hH8095 := hS8092.toHeld.mono (Mem.le_refl _) (List.Sublist.subset (.cons_cons _ (.cons_cons _ (.cons _ (.cons _ (.cons_cons _ (.cons_cons _ (.refl _))))))))
         refine ⟨hH8095, ?_⟩
         refine d_all (rs := [4]) (by kernel_rfl) (by simp) (fun j hj o ho => ?_)
         obtain rfl : j = 4 := by simpa using hj
         cases ho
         refine wl_h hS8092.toHeld (r_slice_hi Tryz.underlying26 ty3 (a := _) (n := _) (c := _) (h := ((l7444.length : Nat) : Int) - 1) rfl rfl (upto_0 hc8058) (upto_c hc8058 (row_cap (hS8092.toHeld.own (.there (.there (.there .here))))))) ?_
         have hrc8097 := RCs.take hrc7450 (((l7444.length : Nat) : Int) - 1).toNat (by rw [← row_n (hS8092.toHeld.own (.there (.there (.there .here)))) hrc7450 (by decide)]; exact upto_n hc8058)
         have hS8096 := hS8092.trunc (k := (((l7444.length : Nat) : Int) - 1).toNat) (upto_n hc8058) (.there (.there (.there .here)))
         generalize cs7448.take ((((l7444.length : Nat) : Int) - 1).toNat * 1) = cs8098 at hS8096 hrc8097
         refine wl_nil ?_
         have hH8099 := hS8096.toHeld.mono (Mem.le_refl _) (List.Sublist.subset (.cons_cons _ (.cons_cons _ (.cons _ (.cons _ (.cons_cons _ (.cons_cons _ (.refl _))))))))
         refine ⟨hH8099, ?_⟩
         refine d_v (i := 10) rfl (by kernel_rfl) rfl (r_assign (v := .slice _ _ _) rfl) hH8099 ?_
         refine d_v (i := 11) rfl (by kernel_rfl) rfl (r_assign (v := .slice _ _ _) rfl) hH8099 ?_
         refine d_end (by kernel_rfl) ?_
         have hS8100 := hS8096.weaken (.cons _ (.cons_cons _ (.cons_cons _ (.cons_cons _ (.cons_cons _ (.cons_cons _ (.refl _)))))))
         exact ⟨_, _, _, _, _, _, _, _, row_n (hS8100.toHeld.own (.there .here)) hrc8093 (by decide), hrc8093, row_n (hS8100.toHeld.own (.there (.there .here))) hrc8097 (by decide), hrc8097, hS8100, rfl, rfl, rfl, rfl, rfl, rfl⟩
       ·rintro f8108 w8109 ⟨a8069, n8070, c8071, cs8072, a8075, n8076, c8077, cs8078, hn8073, hrc8074, hn8079, hrc8080, hS8101, e8102, e8103, e8104, e8105, e8106, e8107⟩
        subst hn8073
        subst hn8079
        refine c_know (t := 2) e8102 <| c_know (t := 8) e8103 <| c_know (t := 9) e8104 <| c_know (t := 12) e8105 <| c_know (t := 13) e8106 ?_
        refine c_know (t := 14) e8107 ?_
        clear e8102 e8103 e8104 e8105 e8106 e8107
        refine c_nil <| q_norm <| c_nil <| q_loop ?_
        exact ⟨k_1, Nat.lt_succ_self _, l7430, (l7437.take (((l7437.length : Nat) : Int) - 1).toNat), (l7444.take (((l7444.length : Nat) : Int) - 1).toNat), l7451, a7431, l7430.length, c7433, cs7434, a8069, ((l7437.take (((l7437.length : Nat) : Int) - 1).toNat)).length, c8071, cs8072, a8075, ((l7444.take (((l7444.length : Nat) : Int) - 1).toNat)).length, c8077, cs8078, a7452, l7451.length, c7454, cs7455, hM, row_n (hS8101.toHeld.own .here) hrc7436 (by decide), hrc7436, row_n (hS8101.toHeld.own (.there .here)) hrc8074 (by decide), hrc8074, row_n (hS8101.toHeld.own (.there (.there .here))) hrc8080 (by decide), hrc8080, row_n (hS8101.toHeld.own (.there (.there (.there .here)))) hrc7457 (by decide), hrc7457, hS8101, rfl, rfl, rfl, rfl, rfl, rfl⟩
    ·replace hM := bif_f h7468 hM
     refine c_exit <| q_loopx <| q_hit <| c_seq <| c_region <| wl_h hS7461.toHeld (r_move (v := .slice _ _ _) rfl) ?_
     obtain ⟨r8110, hq8111, hM⟩ := bnd_ok hM
     refine wl_call ent81 (vals := [.slice _ _ _]) rfl (cg81 hS7461 hrc7436 hq8111) ?_
     rintro _ w8116 ⟨cs8113, rfl, hl8115, hrc8114, hS8117⟩
     refine wl_nil <| c_seq <| c_region <| wl_h hS8117.toHeld (r_move (v := .slice _ _ _) rfl) <| wl_h hS8117.toHeld (r_move (v := .int .i64 _) rfl) ?_
     refine wl_h hS8117.toHeld (r_assign (v := .slice _ _ _) rfl) <| wl_h hS8117.toHeld (r_assign (v := .int .i64 _) rfl) <| wl_h hS8117.toHeld (r_assign (v := .int .i64 _) rfl) <| wl_nil <| c_ret <| q_scoper ?_
     refine ret_many rfl (.tmp (v := .slice _ _ _) rfl (.tmp (v := .int .i64 _) rfl (.tmp (v := .int .i64 _) rfl .nil))) ?_
     obtain rfl := some_eq hM
     have hS8118 := hS8117.weaken (.cons_cons _ (.cons _ (.cons _ (.cons _ (.cons _ (.refl _))))))
     exact ⟨a7431, l7430.length, c7433, cs8113, rfl, row_n (hS8118.toHeld.own .here) hrc8114 (by decide), hrc8114, hS8118⟩

theorem cg123 {m : Mem} {L : List Atom} {w : World} {a1 : Option Addr} {n2 c3 : Nat} {s5 : List Bool} {v6 : Bool} (hS : St w m L) (hr4 : RSl 1 RBool m a1 n2 c3 s5) {fuel : Nat} {r : Int} (hM : mg123 fuel s5 v6 = some r) : Calls P0 123 [.slice a1 n2 c3, .bool v6].toArray w (Ret fun v w' => v = .int .i64 r ∧ St w' m (L)) := by
 rw [mg123] at hM
 obtain rfl := hr4.1
 refine enter Tryz.func123 rfl Tryz.ntmps123 (Nat.le_of_ble_eq_true rfl) ?_
 refine c_seq <| c_region <| wl_h hS.toHeld (r_assign (v := .int .i64 _) rfl) <| wl_nil <| c_seq <| c_seq <| c_region <| wl_h hS.toHeld (r_move (v := .slice _ _ _) rfl) ?_
 refine wl_h hS.toHeld (r_len Tryz.underlying151 (a := _) (n := _) (c := _) rfl) <| wl_h hS.toHeld (r_move (v := .int .i64 _) rfl) <| wl_nil <| c_block <| c_loop (fun k f w => ∃ (x20 : Int), mg123_l0 fuel s5 v6 k x20 = some r ∧ St w m (L) ∧ f 0 = .slice a1 s5.length c3 ∧ f 1 = .bool v6 ∧ f 7 = .int .i64 ((s5.length : Nat) : Int) ∧ f 8 = .int .i64 x20) fuel ⟨0, hM, hS, rfl, rfl, rfl, rfl⟩ ?_
 rintro k_0 f21 w22 ⟨x20, hM, hS24, e25, e26, e27, e28⟩
 refine c_know (t := 0) e25 <| c_know (t := 1) e26 <| c_know (t := 7) e27 <| c_know (t := 8) e28 ?_
 clear e25 e26 e27 e28
 rcases k_0 with _ | k_0
 · exact none_ne hM
 rw [mg123_l0] at hM
 refine c_seq <| c_region <| wl_h hS24.toHeld (r_lss (a := _) (b := _) rfl rfl) <| wl_nil <| c_seq <| c_cond (c := _) rfl (fun h29 => ?_) (fun h29 => ?_)
 ·replace hM := bif_t h29 hM
  refine c_skip <| c_seq <| c_block <| c_seq <| c_region <| wl_h hS24.toHeld (r_move (v := .int .i64 _) rfl) ?_
  refine wl_h hS24.toHeld (r_assign (v := .int .i64 _) rfl) <| wl_nil <| c_seq <| c_region <| wl_h hS24.toHeld (r_move (v := .bool _) rfl) ?_
  refine wl_h hS24.toHeld (r_move (v := .slice _ _ _) rfl) <| wl_h hS24.toHeld (r_move (v := .int .i64 _) rfl) ?_
  obtain ⟨x30, hx31, h32, h33, hM⟩ := getK_ok hM
  obtain ⟨b34, o35, rfl⟩ := RSl.elem_a hr4 hx31
  obtain ⟨cs36, hI37, hR38⟩ := RSl.elem_at hr4 hx31
  obtain rfl := hR38
  refine wl_h hS24.toHeld (r_indexAddr Tryz.underlying151 ty4 (b := _) (o := _) (n := _) (c := _) (i := x20) rfl rfl h32 (RSl.lt hr4 h33)) <| wl_h hS24.toHeld (r_imm ty4 (k := 0) hI37 rfl rfl rfl (v := .bool _) rfl) <| wl_h hS24.toHeld (r_beql Tryz.underlying4 (a := _) (b := _) rfl rfl) <| wl_nil <| c_cond (c := _) rfl (fun h39 => ?_) (fun h39 => ?_)
  ·replace hM := bif_t h39 hM
   refine c_seq <| c_region <| wl_h hS24.toHeld (r_move (v := .int .i64 _) rfl) <| wl_h hS24.toHeld (r_assign (v := .int .i64 _) rfl) <| wl_nil <| c_ret <| q_retb ?_
   refine q_retl <| q_retb <| ret_tmp (t := 4) rfl (v := .int .i64 _) rfl ?_
   obtain rfl := some_eq hM
   exact ⟨rfl, hS24⟩
  ·replace hM := bif_f h39 hM
   refine c_skip <| c_nil <| q_norm <| c_region ?_
   obtain ⟨hc40, hM⟩ := chk_ok hM
   refine wl_h hS24.toHeld (r_add (a := _) (b := _) rfl rfl (ok_lo hc40) (ok_hi hc40)) <| wl_h hS24.toHeld (r_move (v := .int .i64 _) rfl) <| wl_nil <| c_nil <| q_loop ?_
   exact ⟨k_0, Nat.lt_succ_self _, x20 + 1, hM, hS24, rfl, rfl, rfl, rfl⟩
 ·replace hM := bif_f h29 hM
  refine c_exit <| q_loopx <| q_hit <| c_seq <| c_region <| wl_h hS24.toHeld (r_assign (v := .int .i64 _) rfl) ?_
  refine wl_nil <| c_ret <| ret_tmp (t := 4) rfl (v := .int .i64 _) rfl ?_
  obtain rfl := some_eq hM
  exact ⟨rfl, hS24⟩

theorem cg82 {m : Mem} {L : List Atom} {w : World} {a1 : Option Addr} {n2 c3 : Nat} {s5 : List Bool} {v6 : Bool} (hS : St w m L) (hr4 : RSl 1 RBool m a1 n2 c3 s5) {fuel : Nat} {r : Bool} (hM : mg82 fuel s5 v6 = some r) : Calls P0 82 [.slice a1 n2 c3, .bool v6].toArray w (Ret fun v w' => v = .bool r ∧ St w' m (L)) := by
 rw [mg82] at hM
 obtain rfl := hr4.1
 refine enter Tryz.func82 rfl Tryz.ntmps82 (Nat.le_of_ble_eq_true rfl) ?_
 refine c_seq <| c_region <| wl_h hS.toHeld (r_assign (v := .bool _) rfl) <| wl_nil <| c_seq <| c_region <| wl_h hS.toHeld (r_move (v := .slice _ _ _) rfl) ?_
 refine wl_h hS.toHeld (r_move (v := .bool _) rfl) ?_
 obtain ⟨r7, hq8, hM⟩ := bnd_ok hM
 refine wl_call ent123 (vals := [.slice _ _ _, .bool _]) rfl (cg123 hS hr4 hq8) ?_
 rintro _ w10 ⟨rfl, hS11⟩
 refine wl_h hS11.toHeld (r_geq (a := _) (b := _) rfl rfl) <| wl_h hS11.toHeld (r_assign (v := .bool _) rfl) <| wl_nil <| c_ret <| ret_tmp (t := 4) rfl (v := .bool _) rfl ?_
 obtain rfl := some_eq hM
 exact ⟨rfl, hS11⟩

theorem cg31 {m : Mem} {L : List Atom} {w : World} {cs1 : List Value} {r3 : Round} {from9 : Int} {a10 : Option Addr} {n11 c12 : Nat} {walk14 : List Step} (hS : St w m L) (hx2 : RRound m cs1 r3) (hr13 : RSl 2 RStep m a10 n11 c12 walk14) {fuel : Nat} {r : Int × Int} (hM : mg31 fuel r3 from9 walk14 = some r) : Calls P0 31 [.agg cs1.toArray, .int .i64 from9, .slice a10 n11 c12].toArray w (Ret fun v w' => v = .tuple #[.int .i64 r.1, .int .i64 r.2] ∧ St w' m (L)) := by
 rw [mg31] at hM
 have hk8 := hx2
 obtain ⟨a4, n5, c6, rfl, hr7⟩ := hx2
 obtain rfl := hr7.1
 obtain rfl := hr13.1
 refine enter Tryz.func31 rfl Tryz.ntmps31 (Nat.le_of_ble_eq_true rfl) ?_
 refine c_seq <| c_region <| wl_box hS (v := .agg #[.int .i64 _, .slice _ _ _]) rfl (cs := [.int .i64 _, .slice _ _ _]) rfl ?_
 intro b15 w16 hS17
 refine wl_h hS17.toHeld (r_assign (v := .int .i64 _) rfl) <| wl_h hS17.toHeld (r_assign (v := .int .i64 _) rfl) <| wl_nil <| c_seq <| c_seq <| c_region <| wl_h hS17.toHeld (r_box ty41 (k := 0) .here rfl rfl rfl (v := .agg #[.int .i64 _, .slice _ _ _]) rfl) ?_
 obtain ⟨r18, hq19, hM⟩ := bnd_ok hM
 refine wl_call ent46 (vals := [.agg #[.int .i64 _, .slice _ _ _]]) rfl (cg46 hS17 hk8 hq19) ?_
 rintro _ w21 ⟨rfl, hS22⟩
 refine wl_h hS22.toHeld (r_assign (v := .int .i64 _) rfl) <| wl_nil <| c_seq <| c_region <| wl_h hS22.toHeld (r_move (v := .int .i64 _) rfl) ?_
 refine wl_h hS22.toHeld (r_neq (a := _) (b := _) rfl rfl) <| wl_nil <| c_cond (c := _) rfl (fun h23 => ?_) (fun h23 => ?_)
 ·replace hM := bif_t h23 hM
  refine c_seq <| c_region <| wl_h hS22.toHeld (r_move (v := .int .i64 _) rfl) <| wl_h hS22.toHeld (r_assign (v := .int .i64 _) rfl) <| wl_h hS22.toHeld (r_assign (v := .int .i64 _) rfl) ?_
  refine wl_nil <| c_ret <| ret_many rfl (.tmp (v := .int .i64 _) rfl (.tmp (v := .int .i64 _) rfl .nil)) ?_
  obtain rfl := some_eq hM
  have hS24 := hS22.weaken (.cons _ (.refl _))
  exact ⟨rfl, hS24⟩
 ·replace hM := bif_f h23 hM
  refine c_skip <| c_seq <| c_block <| c_seq <| c_region <| wl_h hS22.toHeld (r_box ty41 (k := 0) .here rfl rfl rfl (v := .agg #[.int .i64 _, .slice _ _ _]) rfl) ?_
  refine wl_h hS22.toHeld (r_move (v := .int .i64 _) rfl) ?_
  obtain ⟨r25, hq26, hM⟩ := bnd_ok hM
  refine wl_call ent79 (vals := [.agg #[.int .i64 _, .slice _ _ _], .int .i64 _]) rfl (cg79 hS22 hk8 hq26) ?_
  rintro _ w28 ⟨rfl, hS29⟩
  refine wl_h hS29.toHeld (r_not (b := _) rfl) <| wl_h hS29.toHeld (r_assign (v := .bool _) rfl) <| wl_nil <| c_cond (c := _) rfl (fun h30 => ?_) (fun h30 => ?_)
  ·replace hM := bif_t h30 hM
   refine c_seq <| c_region <| wl_h hS29.toHeld (r_assign (v := .int .i64 _) rfl) <| wl_h hS29.toHeld (r_assign (v := .int .i64 _) rfl) <| wl_nil <| c_ret <| q_retb ?_
   refine ret_many rfl (.tmp (v := .int .i64 _) rfl (.tmp (v := .int .i64 _) rfl .nil)) ?_
   obtain rfl := some_eq hM
   have hS31 := hS29.weaken (.cons _ (.refl _))
   exact ⟨rfl, hS31⟩
  ·replace hM := bif_f h30 hM
   refine c_seq <| c_region <| wl_h hS29.toHeld (r_move (v := .slice _ _ _) rfl) <| wl_h hS29.toHeld (r_len Tryz.underlying45 (a := _) (n := _) (c := _) rfl) <| wl_h hS29.toHeld (r_gtr (a := _) (b := _) rfl rfl) ?_
   refine wl_h hS29.toHeld (r_assign (v := .bool _) rfl) <| wl_nil <| c_cond (c := _) rfl (fun h32 => ?_) (fun h32 => ?_)
   ·replace hM := bif_t h32 hM
    refine c_seq <| c_region <| wl_h hS29.toHeld (r_assign (v := .int .i64 _) rfl) <| wl_h hS29.toHeld (r_assign (v := .int .i64 _) rfl) <| wl_nil <| c_ret <| q_retb ?_
    refine ret_many rfl (.tmp (v := .int .i64 _) rfl (.tmp (v := .int .i64 _) rfl .nil)) ?_
    obtain rfl := some_eq hM
    have hS33 := hS29.weaken (.cons _ (.refl _))
    exact ⟨rfl, hS33⟩
   ·replace hM := bif_f h32 hM
    refine c_skip <| c_nil <| q_norm <| c_seq <| c_region <| wl_h hS29.toHeld (r_move (v := .int .i64 _) rfl) ?_
    refine wl_h hS29.toHeld (r_assign (v := .int .i64 _) rfl) <| wl_h hS29.toHeld (r_assign (v := .int .i64 _) rfl) <| wl_nil <| c_seq <| c_region <| wl_h hS29.toHeld (r_fieldAddr fld41_1 (b := _) (o := _) rfl) ?_
    refine wl_h hS29.toHeld (r_box ty39 (k := 1) .here rfl rfl rfl (v := .slice _ _ _) rfl) <| wl_h hS29.toHeld (r_len Tryz.underlying39 (a := _) (n := _) (c := _) rfl) ?_
    obtain ⟨hc36, hM⟩ := chk_ok hM
    refine wl_makeSlice Tryz.underlying151 ty4 rfl (by decide) hS29 (l := _) (c := _) rfl rfl (mk_0 hc36) (mk_1 hc36) (mk_2 hc36 (by decide)) (mk_3 hc36) ?_
    intro b34 w35 hS37
    have hrc39 : RCs 1 RBool m (reps [.bool false] ((r3.streets.length : Nat) : Int).toNat) ((List.replicate ((r3.streets.length : Nat) : Int).toNat false : List Bool) : List Bool) := RCs.reps rfl rfl _
    refine wl_h hS37.toHeld (r_assign (v := .slice _ _ _) rfl) <| wl_nil <| c_seq <| c_seq <| c_region <| wl_h hS37.toHeld (r_move (v := .slice _ _ _) rfl) ?_
    refine wl_h hS37.toHeld (r_len Tryz.underlying45 (a := _) (n := _) (c := _) rfl) <| wl_h hS37.toHeld (r_move (v := .int .i64 _) rfl) <| wl_nil <| c_block <| c_loop (fun k f w => ∃ (at307 : Int) (length308 : Int) (x309 : Int) (l310 : List Bool) (a311 : Option Addr) (n312 : Nat) (c313 : Nat) (cs314 : List Value), mg31_l0 fuel r3 from9 walk14 k at307 length308 x309 l310 = some r ∧ n312 = l310.length ∧ RCs 1 RBool m cs314 l310 ∧ St w m (.row (.slice a311 n312 c313) 4 1 cs314 :: .box b15 41 [.int .i64 r3.corners, .slice a4 r3.streets.length c6] :: L) ∧ f 1 = .int .i64 from9 ∧ f 3 = .pointer (some ⟨b15, 0, none⟩) ∧ f 9 = .int .i64 at307 ∧ f 10 = .int .i64 length308 ∧ f 11 = .slice a311 n312 c313 ∧ f 36 = .slice a10 walk14.length c12 ∧ f 37 = .int .i64 ((walk14.length : Nat) : Int) ∧ f 38 = .int .i64 x309) fuel ⟨from9, 0, 0, (List.replicate ((r3.streets.length : Nat) : Int).toNat false : List Bool), (some ⟨b34, 0, none⟩), ((r3.streets.length : Nat) : Int).toNat, ((r3.streets.length : Nat) : Int).toNat, reps [.bool false] ((r3.streets.length : Nat) : Int).toNat, hM, row_n (hS37.toHeld.own .here) hrc39 (by decide), hrc39, hS37, rfl, rfl, rfl, rfl, rfl, rfl, rfl, rfl⟩ ?_
    rintro k_0 f317 w318 ⟨at307, length308, x309, l310, a311, n312, c313, cs314, hM, hn315, hrc316, hS320, e321, e322, e323, e324, e325, e326, e327, e328⟩
    subst hn315
    refine c_know (t := 1) e321 <| c_know (t := 3) e322 <| c_know (t := 9) e323 <| c_know (t := 10) e324 <| c_know (t := 11) e325 ?_
    refine c_know (t := 36) e326 <| c_know (t := 37) e327 <| c_know (t := 38) e328 ?_
    clear e321 e322 e323 e324 e325 e326 e327 e328
    rcases k_0 with _ | k_0
    · exact none_ne hM
    rw [mg31_l0] at hM
    refine c_seq <| c_region <| wl_h hS320.toHeld (r_lss (a := _) (b := _) rfl rfl) <| wl_nil <| c_seq <| c_cond (c := _) rfl (fun h329 => ?_) (fun h329 => ?_)
    ·replace hM := bif_t h329 hM
     refine c_skip <| c_seq <| c_block <| c_seq <| c_region ?_
     obtain ⟨x330, hx331, h332, h333, hM⟩ := getK_ok hM
     obtain ⟨b334, o335, rfl⟩ := RSl.elem_a hr13 hx331
     obtain ⟨cs336, hI337, hR338⟩ := RSl.elem_at hr13 hx331
     obtain rfl := hR338
     refine wl_h hS320.toHeld (r_indexAddr Tryz.underlying45 ty44 (b := _) (o := _) (n := _) (c := _) (i := x309) rfl rfl h332 (RSl.lt hr13 h333)) <| wl_h hS320.toHeld (r_imm ty44 (k := 0) hI337 rfl rfl rfl (v := .agg #[.int .i64 _, .bool _]) rfl) <| wl_alloc ty44 rfl hS320 ?_
     intro b339 w340 hS341
     refine wl_store_box ty44 hS341 rfl (v := .agg #[.int .i64 _, .bool _]) rfl (vs := [.int .i64 _, .bool _]) rfl rfl rfl .here (cs' := [.int .i64 _, .bool _]) rfl rfl ?_
     intro w342 hS343
     refine wl_nil <| c_seq <| c_seq <| c_region <| wl_h hS343.toHeld (r_fieldAddr fld44_0 (b := _) (o := _) rfl) ?_
     refine wl_h hS343.toHeld (r_box ty3 (k := 0) .here rfl rfl rfl (v := .int .i64 _) rfl) <| wl_h hS343.toHeld (r_fieldAddr fld41_1 (b := _) (o := _) rfl) <| wl_h hS343.toHeld (r_box ty39 (k := 1) (.there (.there .here)) rfl rfl rfl (v := .slice _ _ _) rfl) <| wl_h hS343.toHeld (r_len Tryz.underlying39 (a := _) (n := _) (c := _) rfl) ?_
     obtain ⟨hc344, hM⟩ := chk_ok hM
     refine wl_h hS343.toHeld (r_sub (a := _) (b := _) rfl rfl (ok_lo hc344) (ok_hi hc344)) ?_
     obtain ⟨r345, hq346, hM⟩ := bnd_ok hM
     refine wl_call ent59 (vals := [.int .i64 _, .int .i64 _, .int .i64 _]) rfl (cg59 hS343 hq346) ?_
     rintro _ w348 ⟨rfl, hS349⟩
     refine wl_h hS349.toHeld (r_not (b := _) rfl) <| wl_nil <| c_cond (c := _) rfl (fun h350 => ?_) (fun h350 => ?_)
     ·replace hM := bif_t h350 hM
      refine c_seq <| c_region <| wl_h hS349.toHeld (r_assign (v := .int .i64 _) rfl) <| wl_h hS349.toHeld (r_assign (v := .int .i64 _) rfl) <| wl_nil <| c_ret <| q_retb ?_
      refine q_retl <| q_retb <| ret_many rfl (.tmp (v := .int .i64 _) rfl (.tmp (v := .int .i64 _) rfl .nil)) ?_
      obtain rfl := some_eq hM
      have hS351 := hS349.weaken (.cons _ (.cons _ (.cons _ (.refl _))))
      exact ⟨rfl, hS351⟩
     ·replace hM := bif_f h350 hM
      refine c_skip <| c_seq <| c_region <| wl_h hS349.toHeld (r_fieldAddr fld41_1 (b := _) (o := _) rfl) <| wl_h hS349.toHeld (r_box ty39 (k := 1) (.there (.there .here)) rfl rfl rfl (v := .slice _ _ _) rfl) ?_
      refine wl_h hS349.toHeld (r_fieldAddr fld44_0 (b := _) (o := _) rfl) <| wl_h hS349.toHeld (r_box ty3 (k := 0) .here rfl rfl rfl (v := .int .i64 _) rfl) ?_
      obtain ⟨x352, hx353, h354, h355, hM⟩ := getK_ok hM
      obtain ⟨b356, o357, rfl⟩ := RSl.elem_a hr7 hx353
      obtain ⟨cs358, hI359, hR360⟩ := RSl.elem_at hr7 hx353
      obtain rfl := hR360
      refine wl_h hS349.toHeld (r_indexAddr Tryz.underlying39 ty47 (b := _) (o := _) (n := _) (c := _) (i := x330.street) rfl rfl h354 (RSl.lt hr7 h355)) <| wl_h hS349.toHeld (r_imm ty47 (k := 0) hI359 rfl rfl rfl (v := .agg #[.int .i64 _, .int .i64 _, .int .i64 _]) rfl) <| wl_alloc ty47 rfl hS349 ?_
      intro b361 w362 hS363
      refine wl_store_box ty47 hS363 rfl (v := .agg #[.int .i64 _, .int .i64 _, .int .i64 _]) rfl (vs := [.int .i64 _, .int .i64 _, .int .i64 _]) rfl rfl rfl .here (cs' := [.int .i64 _, .int .i64 _, .int .i64 _]) rfl rfl ?_
      intro w364 hS365
      refine wl_nil <| c_seq ?_
      have hH368 := (hS365.weaken (.cons_cons _ (.cons_cons _ (.cons_cons _ (.cons_cons _ (.refl _)))))).toHeld
      refine c_draw (k := 6) (fun w => Held w m (.box b361 47 [.int .i64 x352.a, .int .i64 x352.b, .int .i64 x352.length] :: .box b339 44 [.int .i64 x330.street, .bool x330.back] :: .row (.slice a311 l310.length c313) 4 1 cs314 :: .box b15 41 [.int .i64 r3.corners, .slice (some ⟨b356, o357, none⟩) r3.streets.length c6] :: L)) mixed rfl ?_
      replace hH368 := hH368.drew1
      have hS369 := hS365.drew1
      refine d_v (i := 0) rfl (by kernel_rfl) rfl (r_fieldAddr fld47_0 (b := _) (o := _) rfl) hH368 ?_
      refine d_v (i := 1) rfl (by kernel_rfl) rfl (r_box ty3 (k := 0) .here rfl rfl rfl (v := .int .i64 _) rfl) hH368 ?_
      refine d_v (i := 2) rfl (by kernel_rfl) rfl (r_fieldAddr fld47_1 (b := _) (o := _) rfl) hH368 ?_
      refine d_v (i := 3) rfl (by kernel_rfl) rfl (r_box ty3 (k := 1) .here rfl rfl rfl (v := .int .i64 _) rfl) hH368 ?_
      refine d_v (i := 4) rfl (by kernel_rfl) rfl (r_assign (v := .int .i64 _) rfl) hH368 ?_
      refine d_v (i := 5) rfl (by kernel_rfl) rfl (r_assign (v := .int .i64 _) rfl) hH368 ?_
      refine d_end (by kernel_rfl) ?_
      refine c_seq <| c_seq <| c_region <| wl_h hS369.toHeld (r_fieldAddr fld44_1 (b := _) (o := _) rfl) <| wl_h hS369.toHeld (r_box ty4 (k := 1) (.there .here) rfl rfl rfl (v := .bool _) rfl) ?_
      refine wl_nil <| c_cond (c := _) rfl (fun h370 => ?_) (fun h370 => ?_)
      ·replace hM := bif_t h370 hM
       refine c_region <| wl_h hS369.toHeld (r_move (v := .int .i64 _) rfl) <| wl_h hS369.toHeld (r_move (v := .int .i64 _) rfl) <| wl_h hS369.toHeld (r_assign (v := .int .i64 _) rfl) <| wl_h hS369.toHeld (r_assign (v := .int .i64 _) rfl) ?_
       refine wl_nil <| c_seq <| c_seq <| c_region <| wl_h hS369.toHeld (r_move (v := .int .i64 _) rfl) ?_
       refine wl_h hS369.toHeld (r_move (v := .int .i64 _) rfl) <| wl_h hS369.toHeld (r_neq (a := _) (b := _) rfl rfl) <| wl_nil <| c_cond (c := _) rfl (fun h371 => ?_) (fun h371 => ?_)
       ·replace hM := bif_t h371 hM
        refine c_seq <| c_region <| wl_h hS369.toHeld (r_assign (v := .int .i64 _) rfl) <| wl_h hS369.toHeld (r_assign (v := .int .i64 _) rfl) <| wl_nil <| c_ret <| q_retb ?_
        refine q_retl <| q_retb <| ret_many rfl (.tmp (v := .int .i64 _) rfl (.tmp (v := .int .i64 _) rfl .nil)) ?_
        obtain rfl := some_eq hM
        have hS372 := hS369.weaken (.cons _ (.cons _ (.cons _ (.cons _ (.refl _)))))
        exact ⟨rfl, hS372⟩
       ·replace hM := bif_f h371 hM
        refine c_skip ?_
        have hH389 := (hS369.weaken (.cons_cons _ (.cons_cons _ (.cons _ (.cons_cons _ (.refl _)))))).toHeld
        refine c_draw (k := 12) (fun w => Held w m (.box b361 47 [.int .i64 x352.a, .int .i64 x352.b, .int .i64 x352.length] :: .box b339 44 [.int .i64 x330.street, .bool x330.back] :: .box b15 41 [.int .i64 r3.corners, .slice (some ⟨b356, o357, none⟩) r3.streets.length c6] :: L)) mixed rfl ?_
        replace hH389 := hH389.drew1
        have hS390 := hS369.drew1
        refine d_v (i := 0) rfl (by kernel_rfl) rfl (r_move (v := .slice _ _ _) rfl) hH389 ?_
        refine d_v (i := 1) rfl (by kernel_rfl) rfl (r_fieldAddr fld44_0 (b := _) (o := _) rfl) hH389 ?_
        refine d_v (i := 2) rfl (by kernel_rfl) rfl (r_box ty3 (k := 0) (.there .here) rfl rfl rfl (v := .int .i64 _) rfl) hH389 ?_
        refine d_v (i := 3) rfl (by kernel_rfl) rfl (r_move (v := .int .i64 _) rfl) hH389 ?_
        refine d_v (i := 4) rfl (by kernel_rfl) rfl (r_move (v := .int .i64 _) rfl) hH389 ?_
        refine d_v (i := 5) rfl (by kernel_rfl) rfl (r_fieldAddr fld47_2 (b := _) (o := _) rfl) hH389 ?_
        refine d_v (i := 6) rfl (by kernel_rfl) rfl (r_box ty3 (k := 2) .here rfl rfl rfl (v := .int .i64 _) rfl) hH389 ?_
        obtain ⟨hc391, hM⟩ := chk_ok hM
        refine d_v (i := 7) rfl (by kernel_rfl) rfl (r_add (a := _) (b := _) rfl rfl (ok_lo hc391) (ok_hi hc391)) hH389 ?_
        refine d_v (i := 8) rfl (by kernel_rfl) rfl (r_assign (v := .int .i64 _) rfl) hH389 ?_
        refine d_v (i := 9) rfl (by kernel_rfl) rfl (r_assign (v := .int .i64 _) rfl) hH389 ?_
        obtain ⟨x392, hx393, h394, h395, hM⟩ := getK_ok hM
        obtain ⟨b396, rfl⟩ := row_some (hS390.toHeld.own (.there (.there .here))) hrc316 (by decide) h394 h395
        obtain ⟨es397, hes398, hR399⟩ := row_read hrc316 hx393
        obtain rfl := hR399
        refine d_v (i := 10) rfl (by kernel_rfl) rfl (r_indexAddr Tryz.underlying151 ty4 (b := _) (o := _) (n := _) (c := _) (i := x330.street) rfl rfl h394 (row_lt (hS390.toHeld.own (.there (.there .here))) hrc316 (by decide) h395)) hH389 ?_
        refine d_all (rs := [11]) (by kernel_rfl) (by simp) (fun j hj o ho => ?_)
        obtain rfl : j = 11 := by simpa using hj
        cases ho
        refine wl_store_row ty4 hS390 rfl (v := .bool _) rfl (vs := [.bool _]) rfl rfl rfl (.there (.there .here)) (Nat.le_trans (by simp only [Nat.zero_add]; omega) (row_room hrc316 hx393)) ?_
        intro w400 hS401
        have hrc402 := RCs.seti hrc316 hx393 (vs := [.bool true]) (y := true) rfl rfl
        generalize spl cs314 (0 + x330.street.toNat * 1) [.bool true] = cs403 at hS401 hrc402
        refine wl_nil ?_
        have hH404 := hS401.toHeld.mono (Mem.le_refl _) (List.Sublist.subset (.cons_cons _ (.cons_cons _ (.cons _ (.cons_cons _ (.refl _))))))
        refine ⟨hH404, ?_⟩
        refine d_end (by kernel_rfl) ?_
        refine c_nil <| q_norm <| c_region ?_
        obtain ⟨hc405, hM⟩ := chk_ok hM
        refine wl_h hS401.toHeld (r_add (a := _) (b := _) rfl rfl (ok_lo hc405) (ok_hi hc405)) <| wl_h hS401.toHeld (r_move (v := .int .i64 _) rfl) <| wl_nil <| c_nil <| q_loop ?_
        have hS406 := hS401.weaken (.cons _ (.cons _ (.cons_cons _ (.cons_cons _ (.refl _)))))
        exact ⟨k_0, Nat.lt_succ_self _, x352.a, length308 + x352.length, x309 + 1, (l310.set x330.street.toNat true), (some ⟨b396, 0, none⟩), l310.length, c313, cs403, hM, row_n (hS406.toHeld.own .here) hrc402 (by decide), hrc402, hS406, rfl, rfl, rfl, rfl, rfl, rfl, rfl, rfl⟩
      ·replace hM := bif_f h370 hM
       refine c_skip <| c_seq <| c_seq <| c_region <| wl_h hS369.toHeld (r_move (v := .int .i64 _) rfl) ?_
       refine wl_h hS369.toHeld (r_move (v := .int .i64 _) rfl) <| wl_h hS369.toHeld (r_neq (a := _) (b := _) rfl rfl) <| wl_nil <| c_cond (c := _) rfl (fun h407 => ?_) (fun h407 => ?_)
       ·replace hM := bif_t h407 hM
        refine c_seq <| c_region <| wl_h hS369.toHeld (r_assign (v := .int .i64 _) rfl) <| wl_h hS369.toHeld (r_assign (v := .int .i64 _) rfl) <| wl_nil <| c_ret <| q_retb ?_
        refine q_retl <| q_retb <| ret_many rfl (.tmp (v := .int .i64 _) rfl (.tmp (v := .int .i64 _) rfl .nil)) ?_
        obtain rfl := some_eq hM
        have hS408 := hS369.weaken (.cons _ (.cons _ (.cons _ (.cons _ (.refl _)))))
        exact ⟨rfl, hS408⟩
       ·replace hM := bif_f h407 hM
        refine c_skip ?_
        have hH425 := (hS369.weaken (.cons_cons _ (.cons_cons _ (.cons _ (.cons_cons _ (.refl _)))))).toHeld
        refine c_draw (k := 12) (fun w => Held w m (.box b361 47 [.int .i64 x352.a, .int .i64 x352.b, .int .i64 x352.length] :: .box b339 44 [.int .i64 x330.street, .bool x330.back] :: .box b15 41 [.int .i64 r3.corners, .slice (some ⟨b356, o357, none⟩) r3.streets.length c6] :: L)) mixed rfl ?_
        replace hH425 := hH425.drew1
        have hS426 := hS369.drew1
        refine d_v (i := 0) rfl (by kernel_rfl) rfl (r_move (v := .slice _ _ _) rfl) hH425 ?_
        refine d_v (i := 1) rfl (by kernel_rfl) rfl (r_fieldAddr fld44_0 (b := _) (o := _) rfl) hH425 ?_
        refine d_v (i := 2) rfl (by kernel_rfl) rfl (r_box ty3 (k := 0) (.there .here) rfl rfl rfl (v := .int .i64 _) rfl) hH425 ?_
        refine d_v (i := 3) rfl (by kernel_rfl) rfl (r_move (v := .int .i64 _) rfl) hH425 ?_
        refine d_v (i := 4) rfl (by kernel_rfl) rfl (r_move (v := .int .i64 _) rfl) hH425 ?_
        refine d_v (i := 5) rfl (by kernel_rfl) rfl (r_fieldAddr fld47_2 (b := _) (o := _) rfl) hH425 ?_
        refine d_v (i := 6) rfl (by kernel_rfl) rfl (r_box ty3 (k := 2) .here rfl rfl rfl (v := .int .i64 _) rfl) hH425 ?_
        obtain ⟨hc427, hM⟩ := chk_ok hM
        refine d_v (i := 7) rfl (by kernel_rfl) rfl (r_add (a := _) (b := _) rfl rfl (ok_lo hc427) (ok_hi hc427)) hH425 ?_
        refine d_v (i := 8) rfl (by kernel_rfl) rfl (r_assign (v := .int .i64 _) rfl) hH425 ?_
        refine d_v (i := 9) rfl (by kernel_rfl) rfl (r_assign (v := .int .i64 _) rfl) hH425 ?_
        obtain ⟨x428, hx429, h430, h431, hM⟩ := getK_ok hM
        obtain ⟨b432, rfl⟩ := row_some (hS426.toHeld.own (.there (.there .here))) hrc316 (by decide) h430 h431
        obtain ⟨es433, hes434, hR435⟩ := row_read hrc316 hx429
        obtain rfl := hR435
        refine d_v (i := 10) rfl (by kernel_rfl) rfl (r_indexAddr Tryz.underlying151 ty4 (b := _) (o := _) (n := _) (c := _) (i := x330.street) rfl rfl h430 (row_lt (hS426.toHeld.own (.there (.there .here))) hrc316 (by decide) h431)) hH425 ?_
        refine d_all (rs := [11]) (by kernel_rfl) (by simp) (fun j hj o ho => ?_)
        obtain rfl : j = 11 := by simpa using hj
        cases ho
        refine wl_store_row ty4 hS426 rfl (v := .bool _) rfl (vs := [.bool _]) rfl rfl rfl (.there (.there .here)) (Nat.le_trans (by simp only [Nat.zero_add]; omega) (row_room hrc316 hx429)) ?_
        intro w436 hS437
        have hrc438 := RCs.seti hrc316 hx429 (vs := [.bool true]) (y := true) rfl rfl
        generalize spl cs314 (0 + x330.street.toNat * 1) [.bool true] = cs439 at hS437 hrc438
        refine wl_nil ?_
        have hH440 := hS437.toHeld.mono (Mem.le_refl _) (List.Sublist.subset (.cons_cons _ (.cons_cons _ (.cons _ (.cons_cons _ (.refl _))))))
        refine ⟨hH440, ?_⟩
        refine d_end (by kernel_rfl) ?_
        refine c_nil <| q_norm <| c_region ?_
        obtain ⟨hc441, hM⟩ := chk_ok hM
        refine wl_h hS437.toHeld (r_add (a := _) (b := _) rfl rfl (ok_lo hc441) (ok_hi hc441)) <| wl_h hS437.toHeld (r_move (v := .int .i64 _) rfl) <| wl_nil <| c_nil <| q_loop ?_
        have hS442 := hS437.weaken (.cons _ (.cons _ (.cons_cons _ (.cons_cons _ (.refl _)))))
        exact ⟨k_0, Nat.lt_succ_self _, x352.b, length308 + x352.length, x309 + 1, (l310.set x330.street.toNat true), (some ⟨b432, 0, none⟩), l310.length, c313, cs439, hM, row_n (hS442.toHeld.own .here) hrc438 (by decide), hrc438, hS442, rfl, rfl, rfl, rfl, rfl, rfl, rfl, rfl⟩
    ·replace hM := bif_f h329 hM
     refine c_exit <| q_loopx <| q_hit <| c_seq <| c_seq <| c_region <| wl_h hS320.toHeld (r_move (v := .int .i64 _) rfl) ?_
     refine wl_h hS320.toHeld (r_move (v := .int .i64 _) rfl) <| wl_h hS320.toHeld (r_neq (a := _) (b := _) rfl rfl) <| wl_h hS320.toHeld (r_move (v := .bool _) rfl) <| wl_split rfl (c := _) (t := 80) (fun h443 => ?_) (fun h443 => ?_)
     ·replace hM := bif_t h443 hM
      refine wl_off (t := 80) (b := true) rfl rfl rfl ?_
      refine wl_off (t := 80) (b := true) rfl rfl rfl ?_
      refine wl_h hS320.toHeld (r_pick_t rfl (v := .bool _) rfl) <| wl_nil <| c_true rfl <| c_seq <| c_region <| wl_h hS320.toHeld (r_assign (v := .int .i64 _) rfl) ?_
      refine wl_h hS320.toHeld (r_assign (v := .int .i64 _) rfl) <| wl_nil <| c_ret <| ret_many rfl (.tmp (v := .int .i64 _) rfl (.tmp (v := .int .i64 _) rfl .nil)) ?_
      obtain rfl := some_eq hM
      have hS444 := hS320.weaken (.cons _ (.cons _ (.refl _)))
      exact ⟨rfl, hS444⟩
     ·replace hM := bif_f h443 hM
      refine wl_on (t := 80) rfl rfl ?_
      refine wl_h hS320.toHeld (r_move (v := .slice _ _ _) rfl) <| wl_on (t := 80) rfl rfl ?_
      obtain ⟨m445, hm446, hS447, hr448, back449⟩ := hS320.lend .here hrc316 RBool.mono (by decide)
      have le450 := hm446
      obtain ⟨r451, hq452, hM⟩ := bnd_ok hM
      refine wl_call ent82 (vals := [.slice _ _ _, .bool _]) rfl (cg82 hS447 hr448 hq452) ?_
      rintro _ w454 ⟨rfl, hS455⟩
      have hS456 := back449 _ _ hS455
      refine wl_h hS456.toHeld (r_pick_f rfl (v := .bool _) rfl) <| wl_nil <| c_cond (c := _) rfl (fun h457 => ?_) (fun h457 => ?_)
      ·replace hM := bif_t h457 hM
       refine c_seq <| c_region <| wl_h hS456.toHeld (r_assign (v := .int .i64 _) rfl) <| wl_h hS456.toHeld (r_assign (v := .int .i64 _) rfl) <| wl_nil <| c_ret <| ret_many rfl (.tmp (v := .int .i64 _) rfl (.tmp (v := .int .i64 _) rfl .nil)) ?_
       obtain rfl := some_eq hM
       have hS458 := hS456.weaken (.cons _ (.cons _ (.refl _)))
       exact ⟨rfl, hS458⟩
      ·replace hM := bif_f h457 hM
       refine c_skip <| c_seq <| c_region <| wl_h hS456.toHeld (r_move (v := .int .i64 _) rfl) <| wl_h hS456.toHeld (r_assign (v := .int .i64 _) rfl) ?_
       refine wl_h hS456.toHeld (r_assign (v := .int .i64 _) rfl) <| wl_nil <| c_ret <| ret_many rfl (.tmp (v := .int .i64 _) rfl (.tmp (v := .int .i64 _) rfl .nil)) ?_
       obtain rfl := some_eq hM
       have hS459 := hS456.weaken (.cons _ (.cons _ (.refl _)))
       exact ⟨rfl, hS459⟩

theorem cg8 {m : Mem} {L : List Atom} {w : World}  (hS : St w m L)  {fuel : Nat} {r : Bool} (hM : mg8 fuel  = some r) : Calls P0 8 [].toArray w (Ret fun v w' => v = .bool r ∧ St w' m (L)) := by
 rw [mg8] at hM
 refine enter Tryz.func8 rfl Tryz.ntmps8 (Nat.le_of_ble_eq_true rfl) ?_
 refine c_seq <| c_region <| wl_h hS.toHeld (r_assign (v := .bool _) rfl) <| wl_nil <| c_seq <| c_region ?_
 obtain ⟨r1, hq2, hM⟩ := bnd_ok hM
 refine wl_call ent12 (vals := []) rfl (cg12 hS hq2) ?_
 rintro _ w17 ⟨m3, a5, n6, c7, cs8, a11, n12, c13, cs14, rfl, hm4, rfl, hrc9, rfl, hrc15, hS18⟩
 have le19 := hm4
 refine wl_buildSlice Tryz.underlying26 ty3 rfl (by decide) (by decide) hS18 (ps := [(0, [.int .i64 _]), (1, [.int .i64 _])]) rfl rfl (cs := [.int .i64 _, .int .i64 _]) rfl rfl (by decide) ?_
 intro b21 w22 hS23
 have hrc24 : RCs 1 RInt m3 [.int .i64 0, .int .i64 1] ([0, 1] : List Int) := (RCs.cons (d := [.int .i64 0]) rfl rfl (RCs.cons (d := [.int .i64 1]) rfl rfl RCs.nil))
 obtain ⟨m25, hm26, hS27, hr28, back29⟩ := hS23.lend (.there .here) hrc9 RStop.mono (by decide)
 have le30 := hm26
 have hrc31 := RCs.mono RInt.mono hrc24 hm26
 have hrc32 := RCs.mono (RS.mono RInt.mono) hrc15 hm26
 obtain ⟨m33, hm34, hS35, hr36, back37⟩ := hS27.lend (.there .here) hrc32 (RS.mono RInt.mono) (by decide)
 have le38 := Mem.le_trans le30 hm34
 have hr39 := RSl.mono RStop.mono hr28 hm34
 have hrc40 := RCs.mono RInt.mono hrc31 hm34
 obtain ⟨m41, hm42, hS43, hr44, back45⟩ := hS35.lend .here hrc40 RInt.mono (by decide)
 have le46 := Mem.le_trans le38 hm42
 have hr47 := RSl.mono RStop.mono hr39 hm42
 have hr48 := RSl.mono (RS.mono RInt.mono) hr36 hm42
 obtain ⟨r49, hq50, hM⟩ := bnd_ok hM
 refine wl_call ent20 (vals := [.agg #[.slice _ _ _, .slice _ _ _, .int .i64 _, .int .i64 _, .int .i64 _], .slice _ _ _]) rfl (cg20 hS43 ⟨_, _, _, _, _, _, rfl, hr47, hr48⟩ hr44 hq50) ?_
 rintro _ w64 ⟨a52, n53, c54, cs55, a58, n59, c60, cs61, rfl, rfl, hrc56, rfl, hrc62, hS65⟩
 have hS66 := back45 _ _ hS65
 have hS67 := back37 _ _ hS66
 have hS68 := back29 _ _ hS67
 have hrc69 := RCs.move (m' := m3) RInt.any hrc56
 have hrc70 := RCs.move (m' := m3) RInt.any hrc62
 refine wl_h hS68.toHeld (r_move (v := .tuple #[.agg #[.slice _ _ _, .int .i64 _, .int .i64 _], .slice _ _ _, .int .i64 _]) rfl) <| wl_h hS68.toHeld (r_extract (vs := [.agg #[.slice _ _ _, .int .i64 _, .int .i64 _], .slice _ _ _, .int .i64 _]) rfl (v := .agg #[.slice _ _ _, .int .i64 _, .int .i64 _]) rfl) <| wl_h hS68.toHeld (r_extract (vs := [.agg #[.slice _ _ _, .int .i64 _, .int .i64 _], .slice _ _ _, .int .i64 _]) rfl (v := .slice _ _ _) rfl) <| wl_h hS68.toHeld (r_extract (vs := [.agg #[.slice _ _ _, .int .i64 _, .int .i64 _], .slice _ _ _, .int .i64 _]) rfl (v := .int .i64 _) rfl) <| wl_alloc ty61 rfl hS68 ?_
 intro b71 w72 hS73
 refine wl_store_box ty61 hS73 rfl (v := .agg #[.slice _ _ _, .int .i64 _, .int .i64 _]) rfl (vs := [.slice _ _ _, .int .i64 _, .int .i64 _]) rfl rfl rfl .here (cs' := [.slice _ _ _, .int .i64 _, .int .i64 _]) rfl rfl ?_
 intro w74 hS75
 refine wl_h hS75.toHeld (r_assign (v := .slice _ _ _) rfl) <| wl_h hS75.toHeld (r_assign (v := .int .i64 _) rfl) <| wl_nil <| c_seq <| c_region ?_
 obtain ⟨r76, hq77, hM⟩ := bnd_ok hM
 refine wl_call ent12 (vals := []) rfl (cg12 hS75 hq77) ?_
 rintro _ w92 ⟨m78, a80, n81, c82, cs83, a86, n87, c88, cs89, rfl, hm79, rfl, hrc84, rfl, hrc90, hS93⟩
 have le94 := Mem.le_trans le19 hm79
 replace hrc9 := RCs.mono RStop.mono hrc9 hm79
 replace hrc15 := RCs.mono (RS.mono RInt.mono) hrc15 hm79
 replace hrc24 := RCs.mono RInt.mono hrc24 hm79
 replace hrc69 := RCs.mono RInt.mono hrc69 hm79
 replace hrc70 := RCs.mono RInt.mono hrc70 hm79
 obtain ⟨m95, hm96, hS97, hr98⟩ := hS93.freezeR .here hrc84 RStop.mono (by decide)
 have le100 := Mem.le_trans le94 hm96
 replace hrc9 := RCs.mono RStop.mono hrc9 hm96
 replace hrc15 := RCs.mono (RS.mono RInt.mono) hrc15 hm96
 replace hrc24 := RCs.mono RInt.mono hrc24 hm96
 replace hrc69 := RCs.mono RInt.mono hrc69 hm96
 replace hrc70 := RCs.mono RInt.mono hrc70 hm96
 replace hrc84 := RCs.mono RStop.mono hrc84 hm96
 replace hrc90 := RCs.mono (RS.mono RInt.mono) hrc90 hm96
 obtain ⟨m101, hm102, hS103, hr104⟩ := hS97.freezeR .here hrc90 (RS.mono RInt.mono) (by decide)
 have le106 := Mem.le_trans le100 hm102
 replace hrc9 := RCs.mono RStop.mono hrc9 hm102
 replace hrc15 := RCs.mono (RS.mono RInt.mono) hrc15 hm102
 replace hrc24 := RCs.mono RInt.mono hrc24 hm102
 replace hrc69 := RCs.mono RInt.mono hrc69 hm102
 replace hrc70 := RCs.mono RInt.mono hrc70 hm102
 replace hrc84 := RCs.mono RStop.mono hrc84 hm102
 replace hrc90 := RCs.mono (RS.mono RInt.mono) hrc90 hm102
 replace hr98 := RSl.mono RStop.mono hr98 hm102
 obtain ⟨r107, hq108, hM⟩ := bnd_ok hM
 refine wl_call ent29 (vals := [.agg #[.slice _ _ _, .slice _ _ _, .int .i64 _, .int .i64 _, .int .i64 _]]) rfl (cg29 hS103 ⟨_, _, _, _, _, _, rfl, hr98, hr104⟩ hq108) ?_
 rintro _ w117 ⟨m109, a111, n112, c113, cs114, rfl, hm110, rfl, hrc115, hS118⟩
 have le119 := Mem.le_trans le106 hm110
 replace hrc9 := RCs.mono RStop.mono hrc9 hm110
 replace hrc15 := RCs.mono (RS.mono RInt.mono) hrc15 hm110
 replace hrc24 := RCs.mono RInt.mono hrc24 hm110
 replace hrc69 := RCs.mono RInt.mono hrc69 hm110
 replace hrc70 := RCs.mono RInt.mono hrc70 hm110
 replace hrc84 := RCs.mono RStop.mono hrc84 hm110
 replace hrc90 := RCs.mono (RS.mono RInt.mono) hrc90 hm110
 replace hr98 := RSl.mono RStop.mono hr98 hm110
 replace hr104 := RSl.mono (RS.mono RInt.mono) hr104 hm110
 refine wl_h hS118.toHeld (r_move (v := .tuple #[.slice _ _ _, .int .i64 _, .int .i64 _]) rfl) <| wl_h hS118.toHeld (r_extract (vs := [.slice _ _ _, .int .i64 _, .int .i64 _]) rfl (v := .slice _ _ _) rfl) <| wl_h hS118.toHeld (r_extract (vs := [.slice _ _ _, .int .i64 _, .int .i64 _]) rfl (v := .int .i64 _) rfl) <| wl_h hS118.toHeld (r_extract (vs := [.slice _ _ _, .int .i64 _, .int .i64 _]) rfl (v := .int .i64 _) rfl) <| wl_h hS118.toHeld (r_assign (v := .slice _ _ _) rfl) ?_
 refine wl_h hS118.toHeld (r_assign (v := .int .i64 _) rfl) <| wl_h hS118.toHeld (r_assign (v := .int .i64 _) rfl) <| wl_nil <| c_seq <| c_region ?_
 obtain ⟨r120, hq121, hM⟩ := bnd_ok hM
 refine wl_call ent13 (vals := []) rfl (cg13 hS118 hq121) ?_
 rintro _ w129 ⟨a123, n124, c125, cs126, rfl, rfl, hrc127, hS130⟩
 obtain ⟨m131, hm132, hS133, hr134, back135⟩ := hS130.lend .here hrc127 RStreet.mono (by decide)
 have le136 := hm132
 have hrc137 := RCs.mono RTour.mono hrc115 hm132
 have hrc138 := RCs.mono RStop.mono hrc9 hm132
 have hrc139 := RCs.mono (RS.mono RInt.mono) hrc15 hm132
 have hrc140 := RCs.mono RInt.mono hrc24 hm132
 have hrc141 := RCs.mono RInt.mono hrc69 hm132
 have hrc142 := RCs.mono RInt.mono hrc70 hm132
 obtain ⟨r143, hq144, hM⟩ := bnd_ok hM
 refine wl_call ent30 (vals := [.agg #[.int .i64 _, .slice _ _ _], .int .i64 _]) rfl (cg30 hS133 ⟨_, _, _, rfl, hr134⟩ hq144) ?_
 rintro _ w152 ⟨a146, n147, c148, cs149, rfl, rfl, hrc150, hS153⟩
 have hS154 := back135 _ _ hS153
 have hrc155 := RCs.move (m' := m109) RStep.any hrc150
 refine wl_h hS154.toHeld (r_move (v := .tuple #[.slice _ _ _, .int .i64 _, .int .i64 _]) rfl) <| wl_h hS154.toHeld (r_extract (vs := [.slice _ _ _, .int .i64 _, .int .i64 _]) rfl (v := .slice _ _ _) rfl) <| wl_h hS154.toHeld (r_extract (vs := [.slice _ _ _, .int .i64 _, .int .i64 _]) rfl (v := .int .i64 _) rfl) <| wl_h hS154.toHeld (r_extract (vs := [.slice _ _ _, .int .i64 _, .int .i64 _]) rfl (v := .int .i64 _) rfl) <| wl_h hS154.toHeld (r_assign (v := .slice _ _ _) rfl) ?_
 refine wl_h hS154.toHeld (r_assign (v := .int .i64 _) rfl) <| wl_h hS154.toHeld (r_assign (v := .int .i64 _) rfl) <| wl_nil <| c_seq <| c_region ?_
 obtain ⟨r156, hq157, hM⟩ := bnd_ok hM
 refine wl_call ent13 (vals := []) rfl (cg13 hS154 hq157) ?_
 rintro _ w165 ⟨a159, n160, c161, cs162, rfl, rfl, hrc163, hS166⟩
 refine wl_h hS166.toHeld (r_move (v := .slice _ _ _) rfl) ?_
 obtain ⟨m167, hm168, hS169, hr170, back171⟩ := hS166.lend .here hrc163 RStreet.mono (by decide)
 have le172 := hm168
 have hrc173 := RCs.mono RStreet.mono hrc127 hm168
 have hrc174 := RCs.mono RStep.mono hrc155 hm168
 have hrc175 := RCs.mono RTour.mono hrc115 hm168
 have hrc176 := RCs.mono RStop.mono hrc9 hm168
 have hrc177 := RCs.mono (RS.mono RInt.mono) hrc15 hm168
 have hrc178 := RCs.mono RInt.mono hrc24 hm168
 have hrc179 := RCs.mono RInt.mono hrc69 hm168
 have hrc180 := RCs.mono RInt.mono hrc70 hm168
 obtain ⟨m181, hm182, hS183, hr184, back185⟩ := hS169.lend (.there .here) hrc174 RStep.mono (by decide)
 have le186 := Mem.le_trans le172 hm182
 have hr187 := RSl.mono RStreet.mono hr170 hm182
 have hrc188 := RCs.mono RStreet.mono hrc173 hm182
 have hrc189 := RCs.mono RTour.mono hrc175 hm182
 have hrc190 := RCs.mono RStop.mono hrc176 hm182
 have hrc191 := RCs.mono (RS.mono RInt.mono) hrc177 hm182
 have hrc192 := RCs.mono RInt.mono hrc178 hm182
 have hrc193 := RCs.mono RInt.mono hrc179 hm182
 have hrc194 := RCs.mono RInt.mono hrc180 hm182
 obtain ⟨r195, hq196, hM⟩ := bnd_ok hM
 refine wl_call ent31 (vals := [.agg #[.int .i64 _, .slice _ _ _], .int .i64 _, .slice _ _ _]) rfl (cg31 hS183 ⟨_, _, _, rfl, hr187⟩ hr184 hq196) ?_
 rintro _ w198 ⟨rfl, hS199⟩
 have hS200 := back185 _ _ hS199
 have hS201 := back171 _ _ hS200
 refine wl_h hS201.toHeld (r_move (v := .tuple #[.int .i64 _, .int .i64 _]) rfl) <| wl_h hS201.toHeld (r_extract (vs := [.int .i64 _, .int .i64 _]) rfl (v := .int .i64 _) rfl) <| wl_h hS201.toHeld (r_extract (vs := [.int .i64 _, .int .i64 _]) rfl (v := .int .i64 _) rfl) <| wl_h hS201.toHeld (r_assign (v := .int .i64 _) rfl) <| wl_h hS201.toHeld (r_assign (v := .int .i64 _) rfl) ?_
 refine wl_nil <| c_seq <| c_region <| wl_h hS201.toHeld (r_move (v := .int .i64 _) rfl) <| wl_h hS201.toHeld (r_eql (a := _) (b := _) rfl rfl) ?_
 refine wl_h hS201.toHeld (r_move (v := .bool _) rfl) <| wl_split rfl (c := _) (t := 39) (fun h202 => ?_) (fun h202 => ?_)
 ·replace hM := bif_t h202 hM
  refine wl_on (t := 39) rfl rfl ?_
  refine wl_h hS201.toHeld (r_move (v := .int .i64 _) rfl) <| wl_on (t := 39) rfl rfl ?_
  refine wl_h hS201.toHeld (r_eql (a := _) (b := _) rfl rfl) <| wl_h hS201.toHeld (r_pick_t rfl (v := .bool _) rfl) <| wl_h hS201.toHeld (r_move (v := .bool _) rfl) <| wl_split rfl (c := _) (t := 43) (fun h203 => ?_) (fun h203 => ?_)
  ·replace hM := bif_t h203 hM
   refine wl_on (t := 43) rfl rfl ?_
   refine wl_h hS201.toHeld (r_move (v := .int .i64 _) rfl) <| wl_on (t := 43) rfl rfl ?_
   refine wl_h hS201.toHeld (r_eql (a := _) (b := _) rfl rfl) <| wl_h hS201.toHeld (r_pick_t rfl (v := .bool _) rfl) <| wl_h hS201.toHeld (r_move (v := .bool _) rfl) <| wl_split rfl (c := _) (t := 47) (fun h204 => ?_) (fun h204 => ?_)
   ·replace hM := bif_t h204 hM
    refine wl_on (t := 47) rfl rfl ?_
    refine wl_h hS201.toHeld (r_move (v := .int .i64 _) rfl) <| wl_on (t := 47) rfl rfl ?_
    refine wl_h hS201.toHeld (r_eql (a := _) (b := _) rfl rfl) <| wl_h hS201.toHeld (r_pick_t rfl (v := .bool _) rfl) <| wl_h hS201.toHeld (r_move (v := .bool _) rfl) <| wl_split rfl (c := _) (t := 51) (fun h205 => ?_) (fun h205 => ?_)
    ·replace hM := bif_t h205 hM
     refine wl_on (t := 51) rfl rfl ?_
     refine wl_h hS201.toHeld (r_fieldAddr fld61_1 (b := _) (o := _) rfl) <| wl_on (t := 51) rfl rfl ?_
     refine wl_h hS201.toHeld (r_box ty3 (k := 1) (.there (.there (.there (.there .here)))) rfl rfl rfl (v := .int .i64 _) rfl) <| wl_on (t := 51) rfl rfl ?_
     refine wl_h hS201.toHeld (r_eql (a := _) (b := _) rfl rfl) <| wl_h hS201.toHeld (r_pick_t rfl (v := .bool _) rfl) <| wl_h hS201.toHeld (r_move (v := .bool _) rfl) <| wl_split rfl (c := _) (t := 56) (fun h206 => ?_) (fun h206 => ?_)
     ·replace hM := bif_t h206 hM
      refine wl_on (t := 56) rfl rfl ?_
      refine wl_h hS201.toHeld (r_fieldAddr fld61_2 (b := _) (o := _) rfl) <| wl_on (t := 56) rfl rfl ?_
      refine wl_h hS201.toHeld (r_box ty3 (k := 2) (.there (.there (.there (.there .here)))) rfl rfl rfl (v := .int .i64 _) rfl) <| wl_on (t := 56) rfl rfl ?_
      refine wl_h hS201.toHeld (r_eql (a := _) (b := _) rfl rfl) <| wl_h hS201.toHeld (r_pick_t rfl (v := .bool _) rfl) <| wl_h hS201.toHeld (r_move (v := .bool _) rfl) <| wl_split rfl (c := _) (t := 61) (fun h207 => ?_) (fun h207 => ?_)
      ·replace hM := bif_t h207 hM
       refine wl_on (t := 61) rfl rfl ?_
       refine wl_h hS201.toHeld (r_move (v := .slice _ _ _) rfl) <| wl_on (t := 61) rfl rfl ?_
       refine wl_buildSlice Tryz.underlying26 ty3 rfl (by decide) (by decide) hS201 (ps := [(0, [.int .i64 _]), (1, [.int .i64 _])]) rfl rfl (cs := [.int .i64 _, .int .i64 _]) rfl rfl (by decide) ?_
       intro b209 w210 hS211
       have hrc212 : RCs 1 RInt m109 [.int .i64 80, .int .i64 87] ([80, 87] : List Int) := (RCs.cons (d := [.int .i64 80]) rfl rfl (RCs.cons (d := [.int .i64 87]) rfl rfl RCs.nil))
       refine wl_on (t := 61) rfl rfl ?_
       obtain ⟨m213, hm214, hS215, hr216, back217⟩ := hS211.lend (.there (.there (.there (.there (.there (.there (.there (.there (.there (.there .here)))))))))) hrc70 RInt.mono (by decide)
       have le218 := hm214
       have hrc219 := RCs.mono RInt.mono hrc212 hm214
       have hrc220 := RCs.mono RStreet.mono hrc163 hm214
       have hrc221 := RCs.mono RStep.mono hrc155 hm214
       have hrc222 := RCs.mono RStreet.mono hrc127 hm214
       have hrc223 := RCs.mono RTour.mono hrc115 hm214
       have hrc224 := RCs.mono RStop.mono hrc9 hm214
       have hrc225 := RCs.mono (RS.mono RInt.mono) hrc15 hm214
       have hrc226 := RCs.mono RInt.mono hrc24 hm214
       have hrc227 := RCs.mono RInt.mono hrc69 hm214
       obtain ⟨m228, hm229, hS230, hr231, back232⟩ := hS215.lend .here hrc219 RInt.mono (by decide)
       have le233 := Mem.le_trans le218 hm229
       have hr234 := RSl.mono RInt.mono hr216 hm229
       have hrc235 := RCs.mono RStreet.mono hrc220 hm229
       have hrc236 := RCs.mono RStep.mono hrc221 hm229
       have hrc237 := RCs.mono RStreet.mono hrc222 hm229
       have hrc238 := RCs.mono RTour.mono hrc223 hm229
       have hrc239 := RCs.mono RStop.mono hrc224 hm229
       have hrc240 := RCs.mono (RS.mono RInt.mono) hrc225 hm229
       have hrc241 := RCs.mono RInt.mono hrc226 hm229
       have hrc242 := RCs.mono RInt.mono hrc227 hm229
       obtain ⟨r243, hq244, hM⟩ := bnd_ok hM
       refine wl_call ent23 (vals := [.slice _ _ _, .slice _ _ _]) rfl (cg23 hS230 hr234 hr231 hq244) ?_
       rintro _ w246 ⟨rfl, hS247⟩
       have hS248 := back232 _ _ hS247
       have hS249 := back217 _ _ hS248
       refine wl_h hS249.toHeld (r_pick_t rfl (v := .bool _) rfl) <| wl_h hS249.toHeld (r_move (v := .bool _) rfl) <| wl_split rfl (c := _) (t := 66) (fun h250 => ?_) (fun h250 => ?_)
       ·replace hM := bif_t h250 hM
        refine wl_on (t := 66) rfl rfl ?_
        refine wl_h hS249.toHeld (r_move (v := .slice _ _ _) rfl) <| wl_on (t := 66) rfl rfl ?_
        refine wl_h hS249.toHeld (r_len Tryz.underlying77 (a := _) (n := _) (c := _) rfl) <| wl_on (t := 66) rfl rfl ?_
        refine wl_h hS249.toHeld (r_eql (a := _) (b := _) rfl rfl) <| wl_h hS249.toHeld (r_pick_t rfl (v := .bool _) rfl) <| wl_h hS249.toHeld (r_move (v := .bool _) rfl) <| wl_split rfl (c := _) (t := 71) (fun h251 => ?_) (fun h251 => ?_)
        ·replace hM := bif_t h251 hM
         refine wl_on (t := 71) rfl rfl ?_
         refine wl_h hS249.toHeld (r_move (v := .int .i64 _) rfl) <| wl_on (t := 71) rfl rfl ?_
         refine wl_h hS249.toHeld (r_eql (a := _) (b := _) rfl rfl) <| wl_h hS249.toHeld (r_pick_t rfl (v := .bool _) rfl) <| wl_h hS249.toHeld (r_move (v := .bool _) rfl) <| wl_split rfl (c := _) (t := 75) (fun h252 => ?_) (fun h252 => ?_)
         ·replace hM := bif_t h252 hM
          refine wl_on (t := 75) rfl rfl ?_
          refine wl_h hS249.toHeld (r_move (v := .int .i64 _) rfl) <| wl_on (t := 75) rfl rfl ?_
          refine wl_h hS249.toHeld (r_eql (a := _) (b := _) rfl rfl) <| wl_h hS249.toHeld (r_pick_t rfl (v := .bool _) rfl) <| wl_h hS249.toHeld (r_move (v := .bool _) rfl) <| wl_split rfl (c := _) (t := 79) (fun h253 => ?_) (fun h253 => ?_)
          ·replace hM := bif_t h253 hM
           refine wl_on (t := 79) rfl rfl ?_
           refine wl_h hS249.toHeld (r_move (v := .int .i64 _) rfl) <| wl_on (t := 79) rfl rfl ?_
           refine wl_h hS249.toHeld (r_eql (a := _) (b := _) rfl rfl) <| wl_h hS249.toHeld (r_pick_t rfl (v := .bool _) rfl) <| wl_h hS249.toHeld (r_assign (v := .bool _) rfl) <| wl_nil <| c_ret <| ret_tmp (t := 0) rfl (v := .bool _) rfl ?_
           obtain rfl := some_eq hM
           have hS254 := hS249.weaken (.cons _ (.cons _ (.cons _ (.cons _ (.cons _ (.cons _ (.cons _ (.cons _ (.cons _ (.cons _ (.cons _ (.refl _))))))))))))
           exact ⟨rfl, (St.back hS254 le119)⟩
          ·replace hM := bif_f h253 hM
           refine wl_off (t := 79) (b := false) rfl rfl rfl ?_
           refine wl_off (t := 79) (b := false) rfl rfl rfl ?_
           refine wl_h hS249.toHeld (r_pick_f rfl (v := .bool _) rfl) <| wl_h hS249.toHeld (r_assign (v := .bool _) rfl) <| wl_nil <| c_ret <| ret_tmp (t := 0) rfl (v := .bool _) rfl ?_
           obtain rfl := some_eq hM
           have hS255 := hS249.weaken (.cons _ (.cons _ (.cons _ (.cons _ (.cons _ (.cons _ (.cons _ (.cons _ (.cons _ (.cons _ (.cons _ (.refl _))))))))))))
           exact ⟨rfl, (St.back hS255 le119)⟩
         ·replace hM := bif_f h252 hM
          refine wl_off (t := 75) (b := false) rfl rfl rfl ?_
          refine wl_off (t := 75) (b := false) rfl rfl rfl ?_
          refine wl_h hS249.toHeld (r_pick_f rfl (v := .bool _) rfl) <| wl_h hS249.toHeld (r_move (v := .bool _) rfl) <| wl_off (t := 79) (b := false) rfl rfl rfl ?_
          refine wl_off (t := 79) (b := false) rfl rfl rfl ?_
          refine wl_h hS249.toHeld (r_pick_f rfl (v := .bool _) rfl) <| wl_h hS249.toHeld (r_assign (v := .bool _) rfl) <| wl_nil <| c_ret <| ret_tmp (t := 0) rfl (v := .bool _) rfl ?_
          obtain rfl := some_eq hM
          have hS256 := hS249.weaken (.cons _ (.cons _ (.cons _ (.cons _ (.cons _ (.cons _ (.cons _ (.cons _ (.cons _ (.cons _ (.cons _ (.refl _))))))))))))
          exact ⟨rfl, (St.back hS256 le119)⟩
        ·replace hM := bif_f h251 hM
         refine wl_off (t := 71) (b := false) rfl rfl rfl ?_
         refine wl_off (t := 71) (b := false) rfl rfl rfl ?_
         refine wl_h hS249.toHeld (r_pick_f rfl (v := .bool _) rfl) <| wl_h hS249.toHeld (r_move (v := .bool _) rfl) <| wl_off (t := 75) (b := false) rfl rfl rfl ?_
         refine wl_off (t := 75) (b := false) rfl rfl rfl ?_
         refine wl_h hS249.toHeld (r_pick_f rfl (v := .bool _) rfl) <| wl_h hS249.toHeld (r_move (v := .bool _) rfl) <| wl_off (t := 79) (b := false) rfl rfl rfl ?_
         refine wl_off (t := 79) (b := false) rfl rfl rfl ?_
         refine wl_h hS249.toHeld (r_pick_f rfl (v := .bool _) rfl) <| wl_h hS249.toHeld (r_assign (v := .bool _) rfl) <| wl_nil <| c_ret <| ret_tmp (t := 0) rfl (v := .bool _) rfl ?_
         obtain rfl := some_eq hM
         have hS257 := hS249.weaken (.cons _ (.cons _ (.cons _ (.cons _ (.cons _ (.cons _ (.cons _ (.cons _ (.cons _ (.cons _ (.cons _ (.refl _))))))))))))
         exact ⟨rfl, (St.back hS257 le119)⟩
       ·replace hM := bif_f h250 hM
        refine wl_off (t := 66) (b := false) rfl rfl rfl ?_
        refine wl_off (t := 66) (b := false) rfl rfl rfl ?_
        refine wl_off (t := 66) (b := false) rfl rfl rfl ?_
        refine wl_h hS249.toHeld (r_pick_f rfl (v := .bool _) rfl) <| wl_h hS249.toHeld (r_move (v := .bool _) rfl) <| wl_off (t := 71) (b := false) rfl rfl rfl ?_
        refine wl_off (t := 71) (b := false) rfl rfl rfl ?_
        refine wl_h hS249.toHeld (r_pick_f rfl (v := .bool _) rfl) <| wl_h hS249.toHeld (r_move (v := .bool _) rfl) <| wl_off (t := 75) (b := false) rfl rfl rfl ?_
        refine wl_off (t := 75) (b := false) rfl rfl rfl ?_
        refine wl_h hS249.toHeld (r_pick_f rfl (v := .bool _) rfl) <| wl_h hS249.toHeld (r_move (v := .bool _) rfl) <| wl_off (t := 79) (b := false) rfl rfl rfl ?_
        refine wl_off (t := 79) (b := false) rfl rfl rfl ?_
        refine wl_h hS249.toHeld (r_pick_f rfl (v := .bool _) rfl) <| wl_h hS249.toHeld (r_assign (v := .bool _) rfl) <| wl_nil <| c_ret <| ret_tmp (t := 0) rfl (v := .bool _) rfl ?_
        obtain rfl := some_eq hM
        have hS258 := hS249.weaken (.cons _ (.cons _ (.cons _ (.cons _ (.cons _ (.cons _ (.cons _ (.cons _ (.cons _ (.cons _ (.cons _ (.refl _))))))))))))
        exact ⟨rfl, (St.back hS258 le119)⟩
      ·replace hM := bif_f h207 hM
       refine wl_off (t := 61) (b := false) rfl rfl rfl ?_
       refine wl_off (t := 61) (b := false) rfl rfl rfl ?_
       refine wl_off (t := 61) (b := false) rfl rfl rfl ?_
       refine wl_h hS201.toHeld (r_pick_f rfl (v := .bool _) rfl) <| wl_h hS201.toHeld (r_move (v := .bool _) rfl) <| wl_off (t := 66) (b := false) rfl rfl rfl ?_
       refine wl_off (t := 66) (b := false) rfl rfl rfl ?_
       refine wl_off (t := 66) (b := false) rfl rfl rfl ?_
       refine wl_h hS201.toHeld (r_pick_f rfl (v := .bool _) rfl) <| wl_h hS201.toHeld (r_move (v := .bool _) rfl) <| wl_off (t := 71) (b := false) rfl rfl rfl ?_
       refine wl_off (t := 71) (b := false) rfl rfl rfl ?_
       refine wl_h hS201.toHeld (r_pick_f rfl (v := .bool _) rfl) <| wl_h hS201.toHeld (r_move (v := .bool _) rfl) <| wl_off (t := 75) (b := false) rfl rfl rfl ?_
       refine wl_off (t := 75) (b := false) rfl rfl rfl ?_
       refine wl_h hS201.toHeld (r_pick_f rfl (v := .bool _) rfl) <| wl_h hS201.toHeld (r_move (v := .bool _) rfl) <| wl_off (t := 79) (b := false) rfl rfl rfl ?_
       refine wl_off (t := 79) (b := false) rfl rfl rfl ?_
       refine wl_h hS201.toHeld (r_pick_f rfl (v := .bool _) rfl) <| wl_h hS201.toHeld (r_assign (v := .bool _) rfl) <| wl_nil <| c_ret <| ret_tmp (t := 0) rfl (v := .bool _) rfl ?_
       obtain rfl := some_eq hM
       have hS259 := hS201.weaken (.cons _ (.cons _ (.cons _ (.cons _ (.cons _ (.cons _ (.cons _ (.cons _ (.cons _ (.cons _ (.refl _)))))))))))
       exact ⟨rfl, (St.back hS259 le119)⟩
     ·replace hM := bif_f h206 hM
      refine wl_off (t := 56) (b := false) rfl rfl rfl ?_
      refine wl_off (t := 56) (b := false) rfl rfl rfl ?_
      refine wl_off (t := 56) (b := false) rfl rfl rfl ?_
      refine wl_h hS201.toHeld (r_pick_f rfl (v := .bool _) rfl) <| wl_h hS201.toHeld (r_move (v := .bool _) rfl) <| wl_off (t := 61) (b := false) rfl rfl rfl ?_
      refine wl_off (t := 61) (b := false) rfl rfl rfl ?_
      refine wl_off (t := 61) (b := false) rfl rfl rfl ?_
      refine wl_h hS201.toHeld (r_pick_f rfl (v := .bool _) rfl) <| wl_h hS201.toHeld (r_move (v := .bool _) rfl) <| wl_off (t := 66) (b := false) rfl rfl rfl ?_
      refine wl_off (t := 66) (b := false) rfl rfl rfl ?_
      refine wl_off (t := 66) (b := false) rfl rfl rfl ?_
      refine wl_h hS201.toHeld (r_pick_f rfl (v := .bool _) rfl) <| wl_h hS201.toHeld (r_move (v := .bool _) rfl) <| wl_off (t := 71) (b := false) rfl rfl rfl ?_
      refine wl_off (t := 71) (b := false) rfl rfl rfl ?_
      refine wl_h hS201.toHeld (r_pick_f rfl (v := .bool _) rfl) <| wl_h hS201.toHeld (r_move (v := .bool _) rfl) <| wl_off (t := 75) (b := false) rfl rfl rfl ?_
      refine wl_off (t := 75) (b := false) rfl rfl rfl ?_
      refine wl_h hS201.toHeld (r_pick_f rfl (v := .bool _) rfl) <| wl_h hS201.toHeld (r_move (v := .bool _) rfl) <| wl_off (t := 79) (b := false) rfl rfl rfl ?_
      refine wl_off (t := 79) (b := false) rfl rfl rfl ?_
      refine wl_h hS201.toHeld (r_pick_f rfl (v := .bool _) rfl) <| wl_h hS201.toHeld (r_assign (v := .bool _) rfl) <| wl_nil <| c_ret <| ret_tmp (t := 0) rfl (v := .bool _) rfl ?_
      obtain rfl := some_eq hM
      have hS260 := hS201.weaken (.cons _ (.cons _ (.cons _ (.cons _ (.cons _ (.cons _ (.cons _ (.cons _ (.cons _ (.cons _ (.refl _)))))))))))
      exact ⟨rfl, (St.back hS260 le119)⟩
    ·replace hM := bif_f h205 hM
     refine wl_off (t := 51) (b := false) rfl rfl rfl ?_
     refine wl_off (t := 51) (b := false) rfl rfl rfl ?_
     refine wl_off (t := 51) (b := false) rfl rfl rfl ?_
     refine wl_h hS201.toHeld (r_pick_f rfl (v := .bool _) rfl) <| wl_h hS201.toHeld (r_move (v := .bool _) rfl) <| wl_off (t := 56) (b := false) rfl rfl rfl ?_
     refine wl_off (t := 56) (b := false) rfl rfl rfl ?_
     refine wl_off (t := 56) (b := false) rfl rfl rfl ?_
     refine wl_h hS201.toHeld (r_pick_f rfl (v := .bool _) rfl) <| wl_h hS201.toHeld (r_move (v := .bool _) rfl) <| wl_off (t := 61) (b := false) rfl rfl rfl ?_
     refine wl_off (t := 61) (b := false) rfl rfl rfl ?_
     refine wl_off (t := 61) (b := false) rfl rfl rfl ?_
     refine wl_h hS201.toHeld (r_pick_f rfl (v := .bool _) rfl) <| wl_h hS201.toHeld (r_move (v := .bool _) rfl) <| wl_off (t := 66) (b := false) rfl rfl rfl ?_
     refine wl_off (t := 66) (b := false) rfl rfl rfl ?_
     refine wl_off (t := 66) (b := false) rfl rfl rfl ?_
     refine wl_h hS201.toHeld (r_pick_f rfl (v := .bool _) rfl) <| wl_h hS201.toHeld (r_move (v := .bool _) rfl) <| wl_off (t := 71) (b := false) rfl rfl rfl ?_
     refine wl_off (t := 71) (b := false) rfl rfl rfl ?_
     refine wl_h hS201.toHeld (r_pick_f rfl (v := .bool _) rfl) <| wl_h hS201.toHeld (r_move (v := .bool _) rfl) <| wl_off (t := 75) (b := false) rfl rfl rfl ?_
     refine wl_off (t := 75) (b := false) rfl rfl rfl ?_
     refine wl_h hS201.toHeld (r_pick_f rfl (v := .bool _) rfl) <| wl_h hS201.toHeld (r_move (v := .bool _) rfl) <| wl_off (t := 79) (b := false) rfl rfl rfl ?_
     refine wl_off (t := 79) (b := false) rfl rfl rfl ?_
     refine wl_h hS201.toHeld (r_pick_f rfl (v := .bool _) rfl) <| wl_h hS201.toHeld (r_assign (v := .bool _) rfl) <| wl_nil <| c_ret <| ret_tmp (t := 0) rfl (v := .bool _) rfl ?_
     obtain rfl := some_eq hM
     have hS261 := hS201.weaken (.cons _ (.cons _ (.cons _ (.cons _ (.cons _ (.cons _ (.cons _ (.cons _ (.cons _ (.cons _ (.refl _)))))))))))
     exact ⟨rfl, (St.back hS261 le119)⟩
   ·replace hM := bif_f h204 hM
    refine wl_off (t := 47) (b := false) rfl rfl rfl ?_
    refine wl_off (t := 47) (b := false) rfl rfl rfl ?_
    refine wl_h hS201.toHeld (r_pick_f rfl (v := .bool _) rfl) <| wl_h hS201.toHeld (r_move (v := .bool _) rfl) <| wl_off (t := 51) (b := false) rfl rfl rfl ?_
    refine wl_off (t := 51) (b := false) rfl rfl rfl ?_
    refine wl_off (t := 51) (b := false) rfl rfl rfl ?_
    refine wl_h hS201.toHeld (r_pick_f rfl (v := .bool _) rfl) <| wl_h hS201.toHeld (r_move (v := .bool _) rfl) <| wl_off (t := 56) (b := false) rfl rfl rfl ?_
    refine wl_off (t := 56) (b := false) rfl rfl rfl ?_
    refine wl_off (t := 56) (b := false) rfl rfl rfl ?_
    refine wl_h hS201.toHeld (r_pick_f rfl (v := .bool _) rfl) <| wl_h hS201.toHeld (r_move (v := .bool _) rfl) <| wl_off (t := 61) (b := false) rfl rfl rfl ?_
    refine wl_off (t := 61) (b := false) rfl rfl rfl ?_
    refine wl_off (t := 61) (b := false) rfl rfl rfl ?_
    refine wl_h hS201.toHeld (r_pick_f rfl (v := .bool _) rfl) <| wl_h hS201.toHeld (r_move (v := .bool _) rfl) <| wl_off (t := 66) (b := false) rfl rfl rfl ?_
    refine wl_off (t := 66) (b := false) rfl rfl rfl ?_
    refine wl_off (t := 66) (b := false) rfl rfl rfl ?_
    refine wl_h hS201.toHeld (r_pick_f rfl (v := .bool _) rfl) <| wl_h hS201.toHeld (r_move (v := .bool _) rfl) <| wl_off (t := 71) (b := false) rfl rfl rfl ?_
    refine wl_off (t := 71) (b := false) rfl rfl rfl ?_
    refine wl_h hS201.toHeld (r_pick_f rfl (v := .bool _) rfl) <| wl_h hS201.toHeld (r_move (v := .bool _) rfl) <| wl_off (t := 75) (b := false) rfl rfl rfl ?_
    refine wl_off (t := 75) (b := false) rfl rfl rfl ?_
    refine wl_h hS201.toHeld (r_pick_f rfl (v := .bool _) rfl) <| wl_h hS201.toHeld (r_move (v := .bool _) rfl) <| wl_off (t := 79) (b := false) rfl rfl rfl ?_
    refine wl_off (t := 79) (b := false) rfl rfl rfl ?_
    refine wl_h hS201.toHeld (r_pick_f rfl (v := .bool _) rfl) <| wl_h hS201.toHeld (r_assign (v := .bool _) rfl) <| wl_nil <| c_ret <| ret_tmp (t := 0) rfl (v := .bool _) rfl ?_
    obtain rfl := some_eq hM
    have hS262 := hS201.weaken (.cons _ (.cons _ (.cons _ (.cons _ (.cons _ (.cons _ (.cons _ (.cons _ (.cons _ (.cons _ (.refl _)))))))))))
    exact ⟨rfl, (St.back hS262 le119)⟩
  ·replace hM := bif_f h203 hM
   refine wl_off (t := 43) (b := false) rfl rfl rfl ?_
   refine wl_off (t := 43) (b := false) rfl rfl rfl ?_
   refine wl_h hS201.toHeld (r_pick_f rfl (v := .bool _) rfl) <| wl_h hS201.toHeld (r_move (v := .bool _) rfl) <| wl_off (t := 47) (b := false) rfl rfl rfl ?_
   refine wl_off (t := 47) (b := false) rfl rfl rfl ?_
   refine wl_h hS201.toHeld (r_pick_f rfl (v := .bool _) rfl) <| wl_h hS201.toHeld (r_move (v := .bool _) rfl) <| wl_off (t := 51) (b := false) rfl rfl rfl ?_
   refine wl_off (t := 51) (b := false) rfl rfl rfl ?_
   refine wl_off (t := 51) (b := false) rfl rfl rfl ?_
   refine wl_h hS201.toHeld (r_pick_f rfl (v := .bool _) rfl) <| wl_h hS201.toHeld (r_move (v := .bool _) rfl) <| wl_off (t := 56) (b := false) rfl rfl rfl ?_
   refine wl_off (t := 56) (b := false) rfl rfl rfl ?_
   refine wl_off (t := 56) (b := false) rfl rfl rfl ?_
   refine wl_h hS201.toHeld (r_pick_f rfl (v := .bool _) rfl) <| wl_h hS201.toHeld (r_move (v := .bool _) rfl) <| wl_off (t := 61) (b := false) rfl rfl rfl ?_
   refine wl_off (t := 61) (b := false) rfl rfl rfl ?_
   refine wl_off (t := 61) (b := false) rfl rfl rfl ?_
   refine wl_h hS201.toHeld (r_pick_f rfl (v := .bool _) rfl) <| wl_h hS201.toHeld (r_move (v := .bool _) rfl) <| wl_off (t := 66) (b := false) rfl rfl rfl ?_
   refine wl_off (t := 66) (b := false) rfl rfl rfl ?_
   refine wl_off (t := 66) (b := false) rfl rfl rfl ?_
   refine wl_h hS201.toHeld (r_pick_f rfl (v := .bool _) rfl) <| wl_h hS201.toHeld (r_move (v := .bool _) rfl) <| wl_off (t := 71) (b := false) rfl rfl rfl ?_
   refine wl_off (t := 71) (b := false) rfl rfl rfl ?_
   refine wl_h hS201.toHeld (r_pick_f rfl (v := .bool _) rfl) <| wl_h hS201.toHeld (r_move (v := .bool _) rfl) <| wl_off (t := 75) (b := false) rfl rfl rfl ?_
   refine wl_off (t := 75) (b := false) rfl rfl rfl ?_
   refine wl_h hS201.toHeld (r_pick_f rfl (v := .bool _) rfl) <| wl_h hS201.toHeld (r_move (v := .bool _) rfl) <| wl_off (t := 79) (b := false) rfl rfl rfl ?_
   refine wl_off (t := 79) (b := false) rfl rfl rfl ?_
   refine wl_h hS201.toHeld (r_pick_f rfl (v := .bool _) rfl) <| wl_h hS201.toHeld (r_assign (v := .bool _) rfl) <| wl_nil <| c_ret <| ret_tmp (t := 0) rfl (v := .bool _) rfl ?_
   obtain rfl := some_eq hM
   have hS263 := hS201.weaken (.cons _ (.cons _ (.cons _ (.cons _ (.cons _ (.cons _ (.cons _ (.cons _ (.cons _ (.cons _ (.refl _)))))))))))
   exact ⟨rfl, (St.back hS263 le119)⟩
 ·replace hM := bif_f h202 hM
  refine wl_off (t := 39) (b := false) rfl rfl rfl ?_
  refine wl_off (t := 39) (b := false) rfl rfl rfl ?_
  refine wl_h hS201.toHeld (r_pick_f rfl (v := .bool _) rfl) <| wl_h hS201.toHeld (r_move (v := .bool _) rfl) <| wl_off (t := 43) (b := false) rfl rfl rfl ?_
  refine wl_off (t := 43) (b := false) rfl rfl rfl ?_
  refine wl_h hS201.toHeld (r_pick_f rfl (v := .bool _) rfl) <| wl_h hS201.toHeld (r_move (v := .bool _) rfl) <| wl_off (t := 47) (b := false) rfl rfl rfl ?_
  refine wl_off (t := 47) (b := false) rfl rfl rfl ?_
  refine wl_h hS201.toHeld (r_pick_f rfl (v := .bool _) rfl) <| wl_h hS201.toHeld (r_move (v := .bool _) rfl) <| wl_off (t := 51) (b := false) rfl rfl rfl ?_
  refine wl_off (t := 51) (b := false) rfl rfl rfl ?_
  refine wl_off (t := 51) (b := false) rfl rfl rfl ?_
  refine wl_h hS201.toHeld (r_pick_f rfl (v := .bool _) rfl) <| wl_h hS201.toHeld (r_move (v := .bool _) rfl) <| wl_off (t := 56) (b := false) rfl rfl rfl ?_
  refine wl_off (t := 56) (b := false) rfl rfl rfl ?_
  refine wl_off (t := 56) (b := false) rfl rfl rfl ?_
  refine wl_h hS201.toHeld (r_pick_f rfl (v := .bool _) rfl) <| wl_h hS201.toHeld (r_move (v := .bool _) rfl) <| wl_off (t := 61) (b := false) rfl rfl rfl ?_
  refine wl_off (t := 61) (b := false) rfl rfl rfl ?_
  refine wl_off (t := 61) (b := false) rfl rfl rfl ?_
  refine wl_h hS201.toHeld (r_pick_f rfl (v := .bool _) rfl) <| wl_h hS201.toHeld (r_move (v := .bool _) rfl) <| wl_off (t := 66) (b := false) rfl rfl rfl ?_
  refine wl_off (t := 66) (b := false) rfl rfl rfl ?_
  refine wl_off (t := 66) (b := false) rfl rfl rfl ?_
  refine wl_h hS201.toHeld (r_pick_f rfl (v := .bool _) rfl) <| wl_h hS201.toHeld (r_move (v := .bool _) rfl) <| wl_off (t := 71) (b := false) rfl rfl rfl ?_
  refine wl_off (t := 71) (b := false) rfl rfl rfl ?_
  refine wl_h hS201.toHeld (r_pick_f rfl (v := .bool _) rfl) <| wl_h hS201.toHeld (r_move (v := .bool _) rfl) <| wl_off (t := 75) (b := false) rfl rfl rfl ?_
  refine wl_off (t := 75) (b := false) rfl rfl rfl ?_
  refine wl_h hS201.toHeld (r_pick_f rfl (v := .bool _) rfl) <| wl_h hS201.toHeld (r_move (v := .bool _) rfl) <| wl_off (t := 79) (b := false) rfl rfl rfl ?_
  refine wl_off (t := 79) (b := false) rfl rfl rfl ?_
  refine wl_h hS201.toHeld (r_pick_f rfl (v := .bool _) rfl) <| wl_h hS201.toHeld (r_assign (v := .bool _) rfl) <| wl_nil <| c_ret <| ret_tmp (t := 0) rfl (v := .bool _) rfl ?_
  obtain rfl := some_eq hM
  have hS264 := hS201.weaken (.cons _ (.cons _ (.cons _ (.cons _ (.cons _ (.cons _ (.cons _ (.cons _ (.cons _ (.cons _ (.refl _)))))))))))
  exact ⟨rfl, (St.back hS264 le119)⟩

theorem cg3 {m : Mem} {L : List Atom} {w : World} {cs1 : List Value} {f3 : Fleet} {a13 : Option Addr} {n14 c15 : Nat} {stops17 : List Int} (hS : St w m L) (hx2 : RFleet m cs1 f3) (hr16 : RSl 1 RInt m a13 n14 c15 stops17) {fuel : Nat} {r : Bool} (hM : mg3 fuel f3 stops17 = some r) : Calls P0 3 [.agg cs1.toArray, .slice a13 n14 c15].toArray w (Ret fun v w' => v = .bool r ∧ St w' m (L)) := by
 rw [mg3] at hM
 have hk12 := hx2
 obtain ⟨a4, n5, c6, a8, n9, c10, rfl, hr7, hr11⟩ := hx2
 obtain rfl := hr7.1
 obtain rfl := hr11.1
 obtain rfl := hr16.1
 refine enter Tryz.func3 rfl Tryz.ntmps3 (Nat.le_of_ble_eq_true rfl) ?_
 refine c_seq <| c_region <| wl_box hS (v := .agg #[.slice _ _ _, .slice _ _ _, .int .i64 _, .int .i64 _, .int .i64 _]) rfl (cs := [.slice _ _ _, .slice _ _ _, .int .i64 _, .int .i64 _, .int .i64 _]) rfl ?_
 intro b18 w19 hS20
 refine wl_h hS20.toHeld (r_assign (v := .bool _) rfl) <| wl_nil <| c_seq <| c_region <| wl_h hS20.toHeld (r_box ty25 (k := 0) .here rfl rfl rfl (v := .agg #[.slice _ _ _, .slice _ _ _, .int .i64 _, .int .i64 _, .int .i64 _]) rfl) ?_
 obtain ⟨r21, hq22, hM⟩ := bnd_ok hM
 refine wl_call ent6 (vals := [.agg #[.slice _ _ _, .slice _ _ _, .int .i64 _, .int .i64 _, .int .i64 _]]) rfl (cg6 hS20 hk12 hq22) ?_
 rintro _ w24 ⟨rfl, hS25⟩
 refine wl_h hS25.toHeld (r_move (v := .bool _) rfl) <| wl_split rfl (c := _) (t := 7) (fun h26 => ?_) (fun h26 => ?_)
 ·replace hM := bif_t h26 hM
  refine wl_off (t := 7) (b := true) rfl rfl rfl ?_
  refine wl_off (t := 7) (b := true) rfl rfl rfl ?_
  refine wl_off (t := 7) (b := true) rfl rfl rfl ?_
  refine wl_h hS25.toHeld (r_pick_t rfl (v := .bool _) rfl) <| wl_h hS25.toHeld (r_move (v := .bool _) rfl) <| wl_off (t := 12) (b := true) rfl rfl rfl ?_
  refine wl_off (t := 12) (b := true) rfl rfl rfl ?_
  refine wl_off (t := 12) (b := true) rfl rfl rfl ?_
  refine wl_h hS25.toHeld (r_pick_t rfl (v := .bool _) rfl) <| wl_h hS25.toHeld (r_move (v := .bool _) rfl) <| wl_off (t := 17) (b := true) rfl rfl rfl ?_
  refine wl_off (t := 17) (b := true) rfl rfl rfl ?_
  refine wl_off (t := 17) (b := true) rfl rfl rfl ?_
  refine wl_h hS25.toHeld (r_pick_t rfl (v := .bool _) rfl) <| wl_h hS25.toHeld (r_move (v := .bool _) rfl) <| wl_on (t := 22) rfl rfl ?_
  obtain ⟨r27, hq28, hM⟩ := bnd_ok hM
  refine wl_call ent8 (vals := []) rfl (cg8 hS25 hq28) ?_
  rintro _ w30 ⟨rfl, hS31⟩
  refine wl_h hS31.toHeld (r_pick_t rfl (v := .bool _) rfl) <| wl_h hS31.toHeld (r_assign (v := .bool _) rfl) <| wl_nil <| c_ret <| ret_tmp (t := 4) rfl (v := .bool _) rfl ?_
  obtain rfl := some_eq hM
  have hS32 := hS31.weaken (.cons _ (.refl _))
  exact ⟨rfl, hS32⟩
 ·replace hM := bif_f h26 hM
  refine wl_on (t := 7) rfl rfl ?_
  refine wl_h hS25.toHeld (r_move (v := .slice _ _ _) rfl) <| wl_on (t := 7) rfl rfl ?_
  refine wl_h hS25.toHeld (r_len Tryz.underlying26 (a := _) (n := _) (c := _) rfl) <| wl_on (t := 7) rfl rfl ?_
  refine wl_h hS25.toHeld (r_eql (a := _) (b := _) rfl rfl) <| wl_h hS25.toHeld (r_pick_f rfl (v := .bool _) rfl) <| wl_h hS25.toHeld (r_move (v := .bool _) rfl) <| wl_split rfl (c := _) (t := 12) (fun h33 => ?_) (fun h33 => ?_)
  ·replace hM := bif_t h33 hM
   refine wl_off (t := 12) (b := true) rfl rfl rfl ?_
   refine wl_off (t := 12) (b := true) rfl rfl rfl ?_
   refine wl_off (t := 12) (b := true) rfl rfl rfl ?_
   refine wl_h hS25.toHeld (r_pick_t rfl (v := .bool _) rfl) <| wl_h hS25.toHeld (r_move (v := .bool _) rfl) <| wl_off (t := 17) (b := true) rfl rfl rfl ?_
   refine wl_off (t := 17) (b := true) rfl rfl rfl ?_
   refine wl_off (t := 17) (b := true) rfl rfl rfl ?_
   refine wl_h hS25.toHeld (r_pick_t rfl (v := .bool _) rfl) <| wl_h hS25.toHeld (r_move (v := .bool _) rfl) <| wl_on (t := 22) rfl rfl ?_
   obtain ⟨r34, hq35, hM⟩ := bnd_ok hM
   refine wl_call ent8 (vals := []) rfl (cg8 hS25 hq35) ?_
   rintro _ w37 ⟨rfl, hS38⟩
   refine wl_h hS38.toHeld (r_pick_t rfl (v := .bool _) rfl) <| wl_h hS38.toHeld (r_assign (v := .bool _) rfl) <| wl_nil <| c_ret <| ret_tmp (t := 4) rfl (v := .bool _) rfl ?_
   obtain rfl := some_eq hM
   have hS39 := hS38.weaken (.cons _ (.refl _))
   exact ⟨rfl, hS39⟩
  ·replace hM := bif_f h33 hM
   refine wl_on (t := 12) rfl rfl ?_
   refine wl_h hS25.toHeld (r_move (v := .slice _ _ _) rfl) <| wl_on (t := 12) rfl rfl ?_
   refine wl_h hS25.toHeld (r_len Tryz.underlying26 (a := _) (n := _) (c := _) rfl) <| wl_on (t := 12) rfl rfl ?_
   refine wl_h hS25.toHeld (r_gtr (a := _) (b := _) rfl rfl) <| wl_h hS25.toHeld (r_pick_f rfl (v := .bool _) rfl) <| wl_h hS25.toHeld (r_move (v := .bool _) rfl) <| wl_split rfl (c := _) (t := 17) (fun h40 => ?_) (fun h40 => ?_)
   ·replace hM := bif_t h40 hM
    refine wl_off (t := 17) (b := true) rfl rfl rfl ?_
    refine wl_off (t := 17) (b := true) rfl rfl rfl ?_
    refine wl_off (t := 17) (b := true) rfl rfl rfl ?_
    refine wl_h hS25.toHeld (r_pick_t rfl (v := .bool _) rfl) <| wl_h hS25.toHeld (r_move (v := .bool _) rfl) <| wl_on (t := 22) rfl rfl ?_
    obtain ⟨r41, hq42, hM⟩ := bnd_ok hM
    refine wl_call ent8 (vals := []) rfl (cg8 hS25 hq42) ?_
    rintro _ w44 ⟨rfl, hS45⟩
    refine wl_h hS45.toHeld (r_pick_t rfl (v := .bool _) rfl) <| wl_h hS45.toHeld (r_assign (v := .bool _) rfl) <| wl_nil <| c_ret <| ret_tmp (t := 4) rfl (v := .bool _) rfl ?_
    obtain rfl := some_eq hM
    have hS46 := hS45.weaken (.cons _ (.refl _))
    exact ⟨rfl, hS46⟩
   ·replace hM := bif_f h40 hM
    refine wl_on (t := 17) rfl rfl ?_
    refine wl_h hS25.toHeld (r_box ty25 (k := 0) .here rfl rfl rfl (v := .agg #[.slice _ _ _, .slice _ _ _, .int .i64 _, .int .i64 _, .int .i64 _]) rfl) <| wl_on (t := 17) rfl rfl ?_
    refine wl_h hS25.toHeld (r_move (v := .slice _ _ _) rfl) <| wl_on (t := 17) rfl rfl ?_
    obtain ⟨r47, hq48, hM⟩ := bnd_ok hM
    refine wl_call ent7 (vals := [.agg #[.slice _ _ _, .slice _ _ _, .int .i64 _, .int .i64 _, .int .i64 _], .slice _ _ _]) rfl (cg7 hS25 hk12 hr16 hq48) ?_
    rintro _ w50 ⟨rfl, hS51⟩
    refine wl_h hS51.toHeld (r_pick_f rfl (v := .bool _) rfl) <| wl_h hS51.toHeld (r_move (v := .bool _) rfl) <| wl_split rfl (c := _) (t := 22) (fun h52 => ?_) (fun h52 => ?_)
    ·replace hM := bif_t h52 hM
     refine wl_on (t := 22) rfl rfl ?_
     obtain ⟨r53, hq54, hM⟩ := bnd_ok hM
     refine wl_call ent8 (vals := []) rfl (cg8 hS51 hq54) ?_
     rintro _ w56 ⟨rfl, hS57⟩
     refine wl_h hS57.toHeld (r_pick_t rfl (v := .bool _) rfl) <| wl_h hS57.toHeld (r_assign (v := .bool _) rfl) <| wl_nil <| c_ret <| ret_tmp (t := 4) rfl (v := .bool _) rfl ?_
     obtain rfl := some_eq hM
     have hS58 := hS57.weaken (.cons _ (.refl _))
     exact ⟨rfl, hS58⟩
    ·replace hM := bif_f h52 hM
     refine wl_off (t := 22) (b := false) rfl rfl rfl ?_
     refine wl_h hS51.toHeld (r_pick_f rfl (v := .bool _) rfl) <| wl_h hS51.toHeld (r_assign (v := .bool _) rfl) <| wl_nil <| c_ret <| ret_tmp (t := 4) rfl (v := .bool _) rfl ?_
     obtain rfl := some_eq hM
     have hS59 := hS51.weaken (.cons _ (.refl _))
     exact ⟨rfl, hS59⟩

end Go.Proofs.YtdhhimfcjoclfaaGreat
