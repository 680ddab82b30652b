import Derived.Test.YtdhhimfcjoclfaaGreatVA0
set_option linter.unusedVariables false
set_option linter.unusedSimpArgs false
set_option maxRecDepth 100000
namespace Go.Proofs.YtdhhimfcjoclfaaGreat
open Go Go.K Go.V Go.Proofs
attribute [local irreducible] Calls
theorem cg23 {m : Mem} {L : List Atom} {w : World} {a1 : Option Addr} {n2 c3 : Nat} {s15 : List Int} {a6 : Option Addr} {n7 c8 : Nat} {s210 : List Int} (hS : St w m L) (hr4 : RSl 1 RInt m a1 n2 c3 s15) (hr9 : RSl 1 RInt m a6 n7 c8 s210) {fuel : Nat} {r : Bool} (hM : mg23 fuel s15 s210 = some r) : Calls P0 23 [.slice a1 n2 c3, .slice a6 n7 c8].toArray w (Ret fun v w' => v = .bool r ∧ St w' m (L)) := by
 rw [mg23] at hM
 obtain rfl := hr4.1
 obtain rfl := hr9.1
 refine enter Tryz.func23 rfl Tryz.ntmps23 (Nat.le_of_ble_eq_true rfl) ?_
 refine c_seq <| c_region <| wl_h hS.toHeld (r_assign (v := .bool _) rfl) <| wl_nil <| c_seq <| c_seq <| c_region <| wl_h hS.toHeld (r_move (v := .slice _ _ _) rfl) ?_
 refine wl_h hS.toHeld (r_len Tryz.underlying26 (a := _) (n := _) (c := _) rfl) <| wl_h hS.toHeld (r_move (v := .slice _ _ _) rfl) <| wl_h hS.toHeld (r_len Tryz.underlying26 (a := _) (n := _) (c := _) rfl) <| wl_h hS.toHeld (r_neq (a := _) (b := _) rfl rfl) <| wl_nil <| c_cond (c := _) rfl (fun h11 => ?_) (fun h11 => ?_)
 ·replace hM := bif_t h11 hM
  refine c_seq <| c_region <| wl_h hS.toHeld (r_assign (v := .bool _) rfl) <| wl_nil <| c_ret <| ret_tmp (t := 4) rfl (v := .bool _) rfl ?_
  obtain rfl := some_eq hM
  exact ⟨rfl, hS⟩
 ·replace hM := bif_f h11 hM
  refine c_skip <| c_seq <| c_seq <| c_region <| wl_h hS.toHeld (r_move (v := .slice _ _ _) rfl) ?_
  refine wl_h hS.toHeld (r_len Tryz.underlying26 (a := _) (n := _) (c := _) rfl) <| wl_h hS.toHeld (r_move (v := .int .i64 _) rfl) <| wl_nil <| c_block <| c_loop (fun k f w => ∃ (x56 : Int), mg23_l0 fuel s15 s210 k x56 = some r ∧ St w m (L) ∧ f 0 = .slice a1 s15.length c3 ∧ f 1 = .slice a6 s210.length c8 ∧ f 12 = .int .i64 ((s15.length : Nat) : Int) ∧ f 13 = .int .i64 x56) fuel ⟨0, hM, hS, rfl, rfl, rfl, rfl⟩ ?_
  rintro k_0 f57 w58 ⟨x56, hM, hS60, e61, e62, e63, e64⟩
  refine c_know (t := 0) e61 <| c_know (t := 1) e62 <| c_know (t := 12) e63 <| c_know (t := 13) e64 ?_
  clear e61 e62 e63 e64
  rcases k_0 with _ | k_0
  · exact none_ne hM
  rw [mg23_l0] at hM
  refine c_seq <| c_region <| wl_h hS60.toHeld (r_lss (a := _) (b := _) rfl rfl) <| wl_nil <| c_seq <| c_cond (c := _) rfl (fun h65 => ?_) (fun h65 => ?_)
  ·replace hM := bif_t h65 hM
   refine c_skip <| c_seq <| c_block <| c_seq <| c_region <| wl_h hS60.toHeld (r_move (v := .int .i64 _) rfl) ?_
   refine wl_h hS60.toHeld (r_assign (v := .int .i64 _) rfl) <| wl_nil <| c_seq ?_
   have hH86 := (hS60.weaken (.refl _)).toHeld
   refine c_draw (k := 9) (fun w => Held w m (L)) mixed rfl ?_
   replace hH86 := hH86.drew1
   have hS87 := hS60.drew1
   refine d_v (i := 0) rfl (by kernel_rfl) rfl (r_move (v := .slice _ _ _) rfl) hH86 ?_
   refine d_v (i := 1) rfl (by kernel_rfl) rfl (r_move (v := .int .i64 _) rfl) hH86 ?_
   obtain ⟨x88, hx89, h90, h91, hM⟩ := getK_ok hM
   obtain ⟨b92, o93, rfl⟩ := RSl.elem_a hr4 hx89
   obtain ⟨cs94, hI95, hR96⟩ := RSl.elem_at hr4 hx89
   obtain rfl := hR96
   refine d_v (i := 2) rfl (by kernel_rfl) rfl (r_indexAddr Tryz.underlying26 ty3 (b := _) (o := _) (n := _) (c := _) (i := x56) rfl rfl h90 (RSl.lt hr4 h91)) hH86 ?_
   refine d_v (i := 3) rfl (by kernel_rfl) rfl (r_imm ty3 (k := 0) hI95 rfl rfl rfl (v := .int .i64 _) rfl) hH86 ?_
   refine d_v (i := 4) rfl (by kernel_rfl) rfl (r_move (v := .slice _ _ _) rfl) hH86 ?_
   refine d_v (i := 5) rfl (by kernel_rfl) rfl (r_move (v := .int .i64 _) rfl) hH86 ?_
   obtain ⟨x97, hx98, h99, h100, hM⟩ := getK_ok hM
   obtain ⟨b101, o102, rfl⟩ := RSl.elem_a hr9 hx98
   obtain ⟨cs103, hI104, hR105⟩ := RSl.elem_at hr9 hx98
   obtain rfl := hR105
   refine d_v (i := 6) rfl (by kernel_rfl) rfl (r_indexAddr Tryz.underlying26 ty3 (b := _) (o := _) (n := _) (c := _) (i := x56) rfl rfl h99 (RSl.lt hr9 h100)) hH86 ?_
   refine d_v (i := 7) rfl (by kernel_rfl) rfl (r_imm ty3 (k := 0) hI104 rfl rfl rfl (v := .int .i64 _) rfl) hH86 ?_
   refine d_v (i := 8) rfl (by kernel_rfl) rfl (r_neq (a := _) (b := _) rfl rfl) hH86 ?_
   refine d_end (by kernel_rfl) ?_
   refine c_cond (c := _) rfl (fun h106 => ?_) (fun h106 => ?_)
   ·replace hM := bif_t h106 hM
    refine c_seq <| c_region <| wl_h hS87.toHeld (r_assign (v := .bool _) rfl) <| wl_nil <| c_ret <| q_retb ?_
    refine q_retl <| q_retb <| ret_tmp (t := 4) rfl (v := .bool _) rfl ?_
    obtain rfl := some_eq hM
    exact ⟨rfl, hS87⟩
   ·replace hM := bif_f h106 hM
    refine c_skip <| c_nil <| q_norm <| c_region ?_
    obtain ⟨hc107, hM⟩ := chk_ok hM
    refine wl_h hS87.toHeld (r_add (a := _) (b := _) rfl rfl (ok_lo hc107) (ok_hi hc107)) <| wl_h hS87.toHeld (r_move (v := .int .i64 _) rfl) <| wl_nil <| c_nil <| q_loop ?_
    exact ⟨k_0, Nat.lt_succ_self _, x56 + 1, hM, hS87, rfl, rfl, rfl, rfl⟩
  ·replace hM := bif_f h65 hM
   refine c_exit <| q_loopx <| q_hit <| c_seq <| c_region <| wl_h hS60.toHeld (r_assign (v := .bool _) rfl) ?_
   refine wl_nil <| c_ret <| ret_tmp (t := 4) rfl (v := .bool _) rfl ?_
   obtain rfl := some_eq hM
   exact ⟨rfl, hS60⟩

theorem cg22 {m : Mem} {L : List Atom} {w : World} {cs1 : List Value} {a3 : Tour} {cs9 : List Value} {b11 : Tour} (hS : St w m L) (hx2 : RTour m cs1 a3) (hx10 : RTour m cs9 b11) {fuel : Nat} {r : Bool} (hM : mg22 fuel a3 b11 = some r) : Calls P0 22 [.agg cs1.toArray, .agg cs9.toArray].toArray w (Ret fun v w' => v = .bool r ∧ St w' m (L)) := by
 rw [mg22] at hM
 have hk8 := hx2
 obtain ⟨a4, n5, c6, rfl, hr7⟩ := hx2
 obtain rfl := hr7.1
 have hk16 := hx10
 obtain ⟨a12, n13, c14, rfl, hr15⟩ := hx10
 obtain rfl := hr15.1
 refine enter Tryz.func22 rfl Tryz.ntmps22 (Nat.le_of_ble_eq_true rfl) ?_
 refine c_seq <| c_region <| wl_box hS (v := .agg #[.slice _ _ _, .int .i64 _, .int .i64 _]) rfl (cs := [.slice _ _ _, .int .i64 _, .int .i64 _]) rfl ?_
 intro b17 w18 hS19
 refine wl_box hS19 (v := .agg #[.slice _ _ _, .int .i64 _, .int .i64 _]) rfl (cs := [.slice _ _ _, .int .i64 _, .int .i64 _]) rfl ?_
 intro b20 w21 hS22
 refine wl_h hS22.toHeld (r_assign (v := .bool _) rfl) <| wl_nil <| c_seq <| c_region <| wl_h hS22.toHeld (r_fieldAddr fld61_0 (b := _) (o := _) rfl) ?_
 refine wl_h hS22.toHeld (r_box ty26 (k := 0) (.there .here) rfl rfl rfl (v := .slice _ _ _) rfl) <| wl_h hS22.toHeld (r_fieldAddr fld64_0 (b := _) (o := _) rfl) <| wl_h hS22.toHeld (r_box ty26 (k := 0) .here rfl rfl rfl (v := .slice _ _ _) rfl) ?_
 obtain ⟨r23, hq24, hM⟩ := bnd_ok hM
 refine wl_call ent23 (vals := [.slice _ _ _, .slice _ _ _]) rfl (cg23 hS22 hr7 hr15 hq24) ?_
 rintro _ w26 ⟨rfl, hS27⟩
 refine wl_h hS27.toHeld (r_move (v := .bool _) rfl) <| wl_split rfl (c := _) (t := 10) (fun h28 => ?_) (fun h28 => ?_)
 ·replace hM := bif_t h28 hM
  refine wl_on (t := 10) rfl rfl ?_
  refine wl_h hS27.toHeld (r_fieldAddr fld61_1 (b := _) (o := _) rfl) <| wl_on (t := 10) rfl rfl ?_
  refine wl_h hS27.toHeld (r_box ty3 (k := 1) (.there .here) rfl rfl rfl (v := .int .i64 _) rfl) <| wl_on (t := 10) rfl rfl ?_
  refine wl_h hS27.toHeld (r_fieldAddr fld64_1 (b := _) (o := _) rfl) <| wl_on (t := 10) rfl rfl ?_
  refine wl_h hS27.toHeld (r_box ty3 (k := 1) .here rfl rfl rfl (v := .int .i64 _) rfl) <| wl_on (t := 10) rfl rfl ?_
  refine wl_h hS27.toHeld (r_eql (a := _) (b := _) rfl rfl) <| wl_h hS27.toHeld (r_pick_t rfl (v := .bool _) rfl) <| wl_h hS27.toHeld (r_move (v := .bool _) rfl) <| wl_split rfl (c := _) (t := 17) (fun h29 => ?_) (fun h29 => ?_)
  ·replace hM := bif_t h29 hM
   refine wl_on (t := 17) rfl rfl ?_
   refine wl_h hS27.toHeld (r_fieldAddr fld61_2 (b := _) (o := _) rfl) <| wl_on (t := 17) rfl rfl ?_
   refine wl_h hS27.toHeld (r_box ty3 (k := 2) (.there .here) rfl rfl rfl (v := .int .i64 _) rfl) <| wl_on (t := 17) rfl rfl ?_
   refine wl_h hS27.toHeld (r_fieldAddr fld64_2 (b := _) (o := _) rfl) <| wl_on (t := 17) rfl rfl ?_
   refine wl_h hS27.toHeld (r_box ty3 (k := 2) .here rfl rfl rfl (v := .int .i64 _) rfl) <| wl_on (t := 17) rfl rfl ?_
   refine wl_h hS27.toHeld (r_eql (a := _) (b := _) rfl rfl) <| wl_h hS27.toHeld (r_pick_t rfl (v := .bool _) rfl) <| wl_h hS27.toHeld (r_assign (v := .bool _) rfl) <| wl_nil <| c_ret <| ret_tmp (t := 4) rfl (v := .bool _) rfl ?_
   obtain rfl := some_eq hM
   have hS30 := hS27.weaken (.cons _ (.cons _ (.refl _)))
   exact ⟨rfl, hS30⟩
  ·replace hM := bif_f h29 hM
   refine wl_off (t := 17) (b := false) rfl rfl rfl ?_
   refine wl_off (t := 17) (b := false) rfl rfl rfl ?_
   refine wl_off (t := 17) (b := false) rfl rfl rfl ?_
   refine wl_off (t := 17) (b := false) rfl rfl rfl ?_
   refine wl_off (t := 17) (b := false) rfl rfl rfl ?_
   refine wl_h hS27.toHeld (r_pick_f rfl (v := .bool _) rfl) <| wl_h hS27.toHeld (r_assign (v := .bool _) rfl) <| wl_nil <| c_ret <| ret_tmp (t := 4) rfl (v := .bool _) rfl ?_
   obtain rfl := some_eq hM
   have hS31 := hS27.weaken (.cons _ (.cons _ (.refl _)))
   exact ⟨rfl, hS31⟩
 ·replace hM := bif_f h28 hM
  refine wl_off (t := 10) (b := false) rfl rfl rfl ?_
  refine wl_off (t := 10) (b := false) rfl rfl rfl ?_
  refine wl_off (t := 10) (b := false) rfl rfl rfl ?_
  refine wl_off (t := 10) (b := false) rfl rfl rfl ?_
  refine wl_off (t := 10) (b := false) rfl rfl rfl ?_
  refine wl_h hS27.toHeld (r_pick_f rfl (v := .bool _) rfl) <| wl_h hS27.toHeld (r_move (v := .bool _) rfl) <| wl_off (t := 17) (b := false) rfl rfl rfl ?_
  refine wl_off (t := 17) (b := false) rfl rfl rfl ?_
  refine wl_off (t := 17) (b := false) rfl rfl rfl ?_
  refine wl_off (t := 17) (b := false) rfl rfl rfl ?_
  refine wl_off (t := 17) (b := false) rfl rfl rfl ?_
  refine wl_h hS27.toHeld (r_pick_f rfl (v := .bool _) rfl) <| wl_h hS27.toHeld (r_assign (v := .bool _) rfl) <| wl_nil <| c_ret <| ret_tmp (t := 4) rfl (v := .bool _) rfl ?_
  obtain rfl := some_eq hM
  have hS32 := hS27.weaken (.cons _ (.cons _ (.refl _)))
  exact ⟨rfl, hS32⟩

theorem cg130 {m : Mem} {L : List Atom} {w : World} {a1 : Option Addr} {n2 c3 : Nat} {s5 : List Int} {v6 : Int} (hS : St w m L) (hr4 : RSl 1 RInt m a1 n2 c3 s5) {fuel : Nat} {r : Int} (hM : mg130 fuel s5 v6 = some r) : Calls P0 130 [.slice a1 n2 c3, .int .i64 v6].toArray w (Ret fun v w' => v = .int .i64 r ∧ St w' m (L)) := by
 rw [mg130] at hM
 obtain rfl := hr4.1
 refine enter Tryz.func130 rfl Tryz.ntmps130 (Nat.le_of_ble_eq_true rfl) ?_
 refine c_seq <| c_region <| wl_h hS.toHeld (r_assign (v := .int .i64 _) rfl) <| wl_nil <| c_seq <| c_seq <| c_region <| wl_h hS.toHeld (r_move (v := .slice _ _ _) rfl) ?_
 refine wl_h hS.toHeld (r_len Tryz.underlying26 (a := _) (n := _) (c := _) rfl) <| wl_h hS.toHeld (r_move (v := .int .i64 _) rfl) <| wl_nil <| c_block <| c_loop (fun k f w => ∃ (x20 : Int), mg130_l0 fuel s5 v6 k x20 = some r ∧ St w m (L) ∧ f 0 = .slice a1 s5.length c3 ∧ f 1 = .int .i64 v6 ∧ f 7 = .int .i64 ((s5.length : Nat) : Int) ∧ f 8 = .int .i64 x20) fuel ⟨0, hM, hS, rfl, rfl, rfl, rfl⟩ ?_
 rintro k_0 f21 w22 ⟨x20, hM, hS24, e25, e26, e27, e28⟩
 refine c_know (t := 0) e25 <| c_know (t := 1) e26 <| c_know (t := 7) e27 <| c_know (t := 8) e28 ?_
 clear e25 e26 e27 e28
 rcases k_0 with _ | k_0
 · exact none_ne hM
 rw [mg130_l0] at hM
 refine c_seq <| c_region <| wl_h hS24.toHeld (r_lss (a := _) (b := _) rfl rfl) <| wl_nil <| c_seq <| c_cond (c := _) rfl (fun h29 => ?_) (fun h29 => ?_)
 ·replace hM := bif_t h29 hM
  refine c_skip <| c_seq <| c_block <| c_seq <| c_region <| wl_h hS24.toHeld (r_move (v := .int .i64 _) rfl) ?_
  refine wl_h hS24.toHeld (r_assign (v := .int .i64 _) rfl) <| wl_nil <| c_seq <| c_region <| wl_h hS24.toHeld (r_move (v := .int .i64 _) rfl) ?_
  refine wl_h hS24.toHeld (r_move (v := .slice _ _ _) rfl) <| wl_h hS24.toHeld (r_move (v := .int .i64 _) rfl) ?_
  obtain ⟨x30, hx31, h32, h33, hM⟩ := getK_ok hM
  obtain ⟨b34, o35, rfl⟩ := RSl.elem_a hr4 hx31
  obtain ⟨cs36, hI37, hR38⟩ := RSl.elem_at hr4 hx31
  obtain rfl := hR38
  refine wl_h hS24.toHeld (r_indexAddr Tryz.underlying26 ty3 (b := _) (o := _) (n := _) (c := _) (i := x20) rfl rfl h32 (RSl.lt hr4 h33)) <| wl_h hS24.toHeld (r_imm ty3 (k := 0) hI37 rfl rfl rfl (v := .int .i64 _) rfl) <| wl_h hS24.toHeld (r_eql (a := _) (b := _) rfl rfl) <| wl_nil <| c_cond (c := _) rfl (fun h39 => ?_) (fun h39 => ?_)
  ·replace hM := bif_t h39 hM
   refine c_seq <| c_region <| wl_h hS24.toHeld (r_move (v := .int .i64 _) rfl) <| wl_h hS24.toHeld (r_assign (v := .int .i64 _) rfl) <| wl_nil <| c_ret <| q_retb ?_
   refine q_retl <| q_retb <| ret_tmp (t := 4) rfl (v := .int .i64 _) rfl ?_
   obtain rfl := some_eq hM
   exact ⟨rfl, hS24⟩
  ·replace hM := bif_f h39 hM
   refine c_skip <| c_nil <| q_norm <| c_region ?_
   obtain ⟨hc40, hM⟩ := chk_ok hM
   refine wl_h hS24.toHeld (r_add (a := _) (b := _) rfl rfl (ok_lo hc40) (ok_hi hc40)) <| wl_h hS24.toHeld (r_move (v := .int .i64 _) rfl) <| wl_nil <| c_nil <| q_loop ?_
   exact ⟨k_0, Nat.lt_succ_self _, x20 + 1, hM, hS24, rfl, rfl, rfl, rfl⟩
 ·replace hM := bif_f h29 hM
  refine c_exit <| q_loopx <| q_hit <| c_seq <| c_region <| wl_h hS24.toHeld (r_assign (v := .int .i64 _) rfl) ?_
  refine wl_nil <| c_ret <| ret_tmp (t := 4) rfl (v := .int .i64 _) rfl ?_
  obtain rfl := some_eq hM
  exact ⟨rfl, hS24⟩

theorem cg111 {m : Mem} {L : List Atom} {w : World} {a1 : Option Addr} {n2 c3 : Nat} {s5 : List Int} {v6 : Int} (hS : St w m L) (hr4 : RSl 1 RInt m a1 n2 c3 s5) {fuel : Nat} {r : Bool} (hM : mg111 fuel s5 v6 = some r) : Calls P0 111 [.slice a1 n2 c3, .int .i64 v6].toArray w (Ret fun v w' => v = .bool r ∧ St w' m (L)) := by
 rw [mg111] at hM
 obtain rfl := hr4.1
 refine enter Tryz.func111 rfl Tryz.ntmps111 (Nat.le_of_ble_eq_true rfl) ?_
 refine c_seq <| c_region <| wl_h hS.toHeld (r_assign (v := .bool _) rfl) <| wl_nil <| c_seq <| c_region <| wl_h hS.toHeld (r_move (v := .slice _ _ _) rfl) ?_
 refine wl_h hS.toHeld (r_move (v := .int .i64 _) rfl) ?_
 obtain ⟨r7, hq8, hM⟩ := bnd_ok hM
 refine wl_call ent130 (vals := [.slice _ _ _, .int .i64 _]) rfl (cg130 hS hr4 hq8) ?_
 rintro _ w10 ⟨rfl, hS11⟩
 refine wl_h hS11.toHeld (r_geq (a := _) (b := _) rfl rfl) <| wl_h hS11.toHeld (r_assign (v := .bool _) rfl) <| wl_nil <| c_ret <| ret_tmp (t := 4) rfl (v := .bool _) rfl ?_
 obtain rfl := some_eq hM
 exact ⟨rfl, hS11⟩

theorem cg110_all (fuel : Nat) : ∀ {m : Mem} {L : List Atom} {w : World} {b3 : Nat} {a4 : Option Addr} {n5 c6 : Nat} {cs9 : List Value} {y8 : List Int} {b32 : Nat} {a33 : Option Addr} {n34 c35 : Nat} {o37 : Option (List Int)} {y38 : Int} {y39 : Int} {b43 : Nat} {from1 : Int} {at2 : Int} {b10 : Nat} {a12 : Option Addr} {n13 c14 : Nat} {y16 : (List Int)} {b17 : Nat} {a19 : Option Addr} {n20 c21 : Nat} {y23 : (List Stop)} {a24 : Option Addr} {n25 c26 : Nat} {y28 : (List (List Int))} {y29 : Int} {y30 : Int} {y31 : Int} {b40 : Nat} {y42 : Int} (hS : St w m (.box b3 26 [.slice a4 n5 c6] :: .row (.slice a4 n5 c6) 3 1 cs9 :: .box b32 61 [.slice a33 n34 c35, .int .i64 y38, .int .i64 y39] :: .box b43 175 [.func (.func 110) #[] #[.pointer (some ⟨b3, 0, none⟩), .pointer (some ⟨b10, 0, none⟩), .pointer (some ⟨b17, 0, none⟩), .pointer (some ⟨b32, 0, none⟩), .pointer (some ⟨b40, 0, none⟩), .pointer (some ⟨b43, 0, none⟩)]] :: L)) (hr7 : RCs 1 RInt m cs9 y8) (hr36 : ROp 1 RInt m a33 n34 c35 o37)  (hr15 : RSl 1 RInt m a12 n13 c14 y16) (hb11 : K.Own L (.box b10 26 [.slice a12 n13 c14])) (hr22 : RSl 5 RStop m a19 n20 c21 y23) (hr27 : RSl 1 (RS 1 RInt) m a24 n25 c26 y28) (hb18 : K.Own L (.box b17 25 [.slice a19 n20 c21, .slice a24 n25 c26, .int .i64 y29, .int .i64 y30, .int .i64 y31])) (hb41 : K.Own L (.box b40 3 [.int .i64 y42])) {r : (List Int) × (Option (List Int)) × Int × Int} (hM : mg110 fuel from1 at2 y8 y16 y23 y28 y29 y30 y31 o37 y38 y39 y42 = some r), Calls P0 110 [.int .i64 from1, .int .i64 at2, .pointer (some ⟨b3, 0, none⟩), .pointer (some ⟨b10, 0, none⟩), .pointer (some ⟨b17, 0, none⟩), .pointer (some ⟨b32, 0, none⟩), .pointer (some ⟨b40, 0, none⟩), .pointer (some ⟨b43, 0, none⟩)].toArray w (Ret fun v w' => ∃ (m' : Mem) (a0 : Option Addr) (n0 : Nat) (c0 : Nat) (cs0 : List Value) (a1 : Option Addr) (n1 : Nat) (c1 : Nat), v = .tuple #[] ∧ m ≤ m' ∧ n0 = r.1.length ∧ RCs 1 RInt m' cs0 r.1 ∧ ROp 1 RInt m' a1 n1 c1 r.2.1 ∧ St w' m' (.box b3 26 [.slice a0 n0 c0] :: .row (.slice a0 n0 c0) 3 1 cs0 :: .box b32 61 [.slice a1 n1 c1, .int .i64 r.2.2.1, .int .i64 r.2.2.2] :: .box b43 175 [.func (.func 110) #[] #[.pointer (some ⟨b3, 0, none⟩), .pointer (some ⟨b10, 0, none⟩), .pointer (some ⟨b17, 0, none⟩), .pointer (some ⟨b32, 0, none⟩), .pointer (some ⟨b40, 0, none⟩), .pointer (some ⟨b43, 0, none⟩)]] :: L)) := by
 induction fuel with
 | zero => intros; rename_i hM; exact none_ne hM
 | succ fuel ih =>
 intro m L w b3 a4 n5 c6 cs9 y8 b32 a33 n34 c35 o37 y38 y39 b43 from1 at2 b10 a12 n13 c14 y16 b17 a19 n20 c21 y23 a24 n25 c26 y28 y29 y30 y31 b40 y42 hS hr7 hr36 hr15 hb11 hr22 hr27 hb18 hb41 r hM
 rw [mg110] at hM
 obtain rfl := hr15.1
 obtain rfl := hr22.1
 obtain rfl := hr27.1
 obtain rfl := row_n (hS.toHeld.own (.there .here)) hr7 (by decide)
 obtain rfl := (ROp.rsl hr36).1
 refine enter Tryz.func110 rfl Tryz.ntmps110 (Nat.le_of_ble_eq_true rfl) ?_
 refine c_seq <| c_seq <| c_region <| wl_h hS.toHeld (r_box ty26 (k := 0) .here rfl rfl rfl (v := .slice _ _ _) rfl) <| wl_h hS.toHeld (r_len Tryz.underlying26 (a := _) (n := _) (c := _) rfl) ?_
 refine wl_h hS.toHeld (r_box ty26 (k := 0) (.there (.there (.there (.there hb11)))) rfl rfl rfl (v := .slice _ _ _) rfl) <| wl_h hS.toHeld (r_len Tryz.underlying26 (a := _) (n := _) (c := _) rfl) <| wl_h hS.toHeld (r_eql (a := _) (b := _) rfl rfl) <| wl_nil <| c_cond (c := _) rfl (fun h44 => ?_) (fun h44 => ?_)
 ·replace hM := bif_t h44 hM
  refine c_seq <| c_region <| wl_h hS.toHeld (r_move (v := .int .i64 _) rfl) <| wl_h hS.toHeld (r_fieldAddr fld25_1 (b := _) (o := _) rfl) <| wl_h hS.toHeld (r_box ty23 (k := 1) (.there (.there (.there (.there hb18)))) rfl rfl rfl (v := .slice _ _ _) rfl) ?_
  refine wl_h hS.toHeld (r_move (v := .int .i64 _) rfl) ?_
  obtain ⟨x45, hx46, h47, h48, hM⟩ := getK_ok hM
  obtain ⟨b49, o50, rfl⟩ := RSl.elem_a hr27 hx46
  obtain ⟨cs51, hI52, hR53⟩ := RSl.elem_at hr27 hx46
  obtain ⟨a54, n55, c56, rfl, hr57⟩ := hR53
  obtain rfl := hr57.1
  refine wl_h hS.toHeld (r_indexAddr Tryz.underlying23 ty26 (b := _) (o := _) (n := _) (c := _) (i := from1) rfl rfl h47 (RSl.lt hr27 h48)) <| wl_h hS.toHeld (r_imm ty26 (k := 0) hI52 rfl rfl rfl (v := .slice _ _ _) rfl) ?_
  obtain ⟨x58, hx59, h60, h61, hM⟩ := getK_ok hM
  obtain ⟨b62, o63, rfl⟩ := RSl.elem_a hr57 hx59
  obtain ⟨cs64, hI65, hR66⟩ := RSl.elem_at hr57 hx59
  obtain rfl := hR66
  refine wl_h hS.toHeld (r_indexAddr Tryz.underlying26 ty3 (b := _) (o := _) (n := _) (c := _) (i := 0) rfl rfl h60 (RSl.lt hr57 h61)) <| wl_h hS.toHeld (r_imm ty3 (k := 0) hI65 rfl rfl rfl (v := .int .i64 _) rfl) ?_
  obtain ⟨hc67, hM⟩ := chk_ok hM
  refine wl_h hS.toHeld (r_add (a := _) (b := _) rfl rfl (ok_lo hc67) (ok_hi hc67)) <| wl_h hS.toHeld (r_assign (v := .int .i64 _) rfl) <| wl_nil <| c_seq <| c_seq <| c_region <| wl_h hS.toHeld (r_move (v := .int .i64 _) rfl) ?_
  refine wl_h hS.toHeld (r_fieldAddr fld25_4 (b := _) (o := _) rfl) <| wl_h hS.toHeld (r_box ty3 (k := 4) (.there (.there (.there (.there hb18)))) rfl rfl rfl (v := .int .i64 _) rfl) <| wl_h hS.toHeld (r_leq (a := _) (b := _) rfl rfl) <| wl_h hS.toHeld (r_move (v := .bool _) rfl) <| wl_split rfl (c := _) (t := 34) (fun h68 => ?_) (fun h68 => ?_)
  ·replace hM := bif_t h68 hM
   refine wl_on (t := 34) rfl rfl ?_
   refine wl_h hS.toHeld (r_fieldAddr fld61_0 (b := _) (o := _) rfl) <| wl_on (t := 34) rfl rfl ?_
   refine wl_h hS.toHeld (r_box ty26 (k := 0) (.there (.there .here)) rfl rfl rfl (v := .slice _ _ _) rfl) <| wl_on (t := 34) rfl rfl ?_
   refine wl_h hS.toHeld (r_nil_eqlO Tryz.underlying26 rfl rfl (ROp.isNone hr36)) <| wl_on (t := 34) rfl rfl ?_
   refine wl_h hS.toHeld (r_move (v := .bool _) rfl) <| wl_split rfl (c := _) (t := 38) (fun h69 => ?_) (fun h69 => ?_)
   ·replace hM := bif_t h69 hM
    refine wl_off (t := 38) (b := true) rfl rfl rfl ?_
    refine wl_off (t := 38) (b := true) rfl rfl rfl ?_
    refine wl_off (t := 38) (b := true) rfl rfl rfl ?_
    refine wl_off (t := 38) (b := true) rfl rfl rfl ?_
    refine wl_on (t := 34) rfl rfl ?_
    refine wl_h hS.toHeld (r_pick_t rfl (v := .bool _) rfl) <| wl_h hS.toHeld (r_pick_t rfl (v := .bool _) rfl) <| wl_nil <| c_true rfl ?_
    obtain ⟨r78, hq79, hM⟩ := bnd_ok hM
    have hH105 := (hS.weaken (.cons_cons _ (.cons_cons _ (.cons _ (.cons_cons _ (.refl _)))))).toHeld
    refine c_drawJ (k := 6) (fun f w => ∃ (a99 : Option Addr) (n100 : Nat) (c101 : Nat) (cs102 : List Value), n100 = (r78).length ∧ RCs 1 RInt m cs102 r78 ∧ St w m (.box b3 26 [.slice a4 y8.length c6] :: .row (.slice a4 y8.length c6) 3 1 cs9 :: .box b43 175 [.func (.func 110) #[] #[.pointer (some ⟨b3, 0, none⟩), .pointer (some ⟨b10, 0, none⟩), .pointer (some ⟨b17, 0, none⟩), .pointer (some ⟨b32, 0, none⟩), .pointer (some ⟨b40, 0, none⟩), .pointer (some ⟨b43, 0, none⟩)]] :: .row (.slice a99 n100 c101) 3 1 cs102 :: .box b32 61 [.slice a99 n100 c101, .int .i64 y42, .int .i64 (at2 + x58)] :: L)) (fun w => Held w m (.box b3 26 [.slice a4 y8.length c6] :: .row (.slice a4 y8.length c6) 3 1 cs9 :: .box b43 175 [.func (.func 110) #[] #[.pointer (some ⟨b3, 0, none⟩), .pointer (some ⟨b10, 0, none⟩), .pointer (some ⟨b17, 0, none⟩), .pointer (some ⟨b32, 0, none⟩), .pointer (some ⟨b40, 0, none⟩), .pointer (some ⟨b43, 0, none⟩)]] :: L)) mixed rfl ?_ ?_
    ·replace hH105 := hH105.drew1
     have hS106 := hS.drew1
     refine d_v (i := 0) rfl (by kernel_rfl) rfl (r_box ty26 (k := 0) .here rfl rfl rfl (v := .slice _ _ _) rfl) hH105 ?_
     refine d_v (i := 3) rfl (by kernel_rfl) rfl (r_move (v := .int .i64 _) rfl) hH105 ?_
     refine d_all (rs := [1, 2]) (by kernel_rfl) (by simp) (fun j hj o ho => ?_)
     simp only [List.mem_cons, List.not_mem_nil, or_false] at hj
     rcases hj with rfl | rfl
     ·cases ho
      obtain ⟨m107, hm108, hS109, hr110, back111⟩ := hS106.lend (.there .here) hr7 RInt.mono (by decide)
      have le112 := hm108
      refine wl_call ent17 (vals := [.slice _ _ _]) rfl (cg17 hS109 hr110 hq79) ?_
      rintro _ w120 ⟨a114, n115, c116, cs117, rfl, rfl, hrc118, hS121⟩
      have hS122 := back111 _ _ hS121
      have hrc123 := RCs.move (m' := m) RInt.any hrc118
      refine wl_nil ?_
      have hS125 := hS122.front (.there (.there (.there (.there .here))))
      have hS126 := hS125.front (.there .here)
      have hS127 := hS126.front (.there (.there (.there .here)))
      have hH124 := hS127.toHeld.mono (Mem.le_refl _) (List.Sublist.subset (.cons_cons _ (.cons_cons _ (.cons_cons _ (.cons _ (.cons _ (.refl _)))))))
      refine ⟨hH124, ?_⟩
      refine d_all (rs := [2]) (by kernel_rfl) (by simp) (fun j hj o ho => ?_)
      obtain rfl : j = 2 := by simpa using hj
      cases ho
      refine wl_h hS127.toHeld (r_box ty3 (k := 0) (.there (.there (.there (.there (.there hb41))))) rfl rfl rfl (v := .int .i64 _) rfl) <| wl_nil ?_
      have hH128 := hS127.toHeld.mono (Mem.le_refl _) (List.Sublist.subset (.cons_cons _ (.cons_cons _ (.cons_cons _ (.cons _ (.cons _ (.refl _)))))))
      refine ⟨hH128, ?_⟩
      refine d_v (i := 4) rfl (by kernel_rfl) rfl (r_build ty61 st61 (ps := [(0, [.slice _ _ _]), (1, [.int .i64 _]), (2, [.int .i64 _])]) rfl rfl (cs := [.slice _ _ _, .int .i64 _, .int .i64 _]) rfl) hH128 ?_
      refine d_all (rs := [5]) (by kernel_rfl) (by simp) (fun j hj o ho => ?_)
      obtain rfl : j = 5 := by simpa using hj
      cases ho
      refine wl_store_box ty61 hS127 rfl (v := .agg #[.slice _ _ _, .int .i64 _, .int .i64 _]) rfl (vs := [.slice _ _ _, .int .i64 _, .int .i64 _]) rfl rfl rfl (.there (.there (.there (.there .here)))) (cs' := [.slice _ _ _, .int .i64 _, .int .i64 _]) rfl rfl ?_
      intro w129 hS130
      refine wl_nil ?_
      have hH131 := hS130.toHeld.mono (Mem.le_refl _) (List.Sublist.subset (.cons_cons _ (.cons_cons _ (.cons_cons _ (.cons _ (.cons _ (.refl _)))))))
      refine ⟨hH131, ?_⟩
      refine d_end (by kernel_rfl) ?_
      exact ⟨_, _, _, _, row_n (hS130.toHeld.own (.there (.there (.there .here)))) hrc123 (by decide), hrc123, hS130⟩
     ·cases ho
      refine wl_h hS106.toHeld (r_box ty3 (k := 0) (.there (.there (.there (.there hb41)))) rfl rfl rfl (v := .int .i64 _) rfl) <| wl_nil ?_
      have hH132 := hS106.toHeld.mono (Mem.le_refl _) (List.Sublist.subset (.cons_cons _ (.cons_cons _ (.cons _ (.cons_cons _ (.refl _))))))
      refine ⟨hH132, ?_⟩
      refine d_all (rs := [1]) (by kernel_rfl) (by simp) (fun j hj o ho => ?_)
      obtain rfl : j = 1 := by simpa using hj
      cases ho
      obtain ⟨m133, hm134, hS135, hr136, back137⟩ := hS106.lend (.there .here) hr7 RInt.mono (by decide)
      have le138 := hm134
      refine wl_call ent17 (vals := [.slice _ _ _]) rfl (cg17 hS135 hr136 hq79) ?_
      rintro _ w146 ⟨a140, n141, c142, cs143, rfl, rfl, hrc144, hS147⟩
      have hS148 := back137 _ _ hS147
      have hrc149 := RCs.move (m' := m) RInt.any hrc144
      refine wl_nil ?_
      have hS151 := hS148.front (.there (.there (.there (.there .here))))
      have hS152 := hS151.front (.there .here)
      have hS153 := hS152.front (.there (.there (.there .here)))
      have hH150 := hS153.toHeld.mono (Mem.le_refl _) (List.Sublist.subset (.cons_cons _ (.cons_cons _ (.cons_cons _ (.cons _ (.cons _ (.refl _)))))))
      refine ⟨hH150, ?_⟩
      refine d_v (i := 4) rfl (by kernel_rfl) rfl (r_build ty61 st61 (ps := [(0, [.slice _ _ _]), (1, [.int .i64 _]), (2, [.int .i64 _])]) rfl rfl (cs := [.slice _ _ _, .int .i64 _, .int .i64 _]) rfl) hH150 ?_
      refine d_all (rs := [5]) (by kernel_rfl) (by simp) (fun j hj o ho => ?_)
      obtain rfl : j = 5 := by simpa using hj
      cases ho
      refine wl_store_box ty61 hS153 rfl (v := .agg #[.slice _ _ _, .int .i64 _, .int .i64 _]) rfl (vs := [.slice _ _ _, .int .i64 _, .int .i64 _]) rfl rfl rfl (.there (.there (.there (.there .here)))) (cs' := [.slice _ _ _, .int .i64 _, .int .i64 _]) rfl rfl ?_
      intro w154 hS155
      refine wl_nil ?_
      have hH156 := hS155.toHeld.mono (Mem.le_refl _) (List.Sublist.subset (.cons_cons _ (.cons_cons _ (.cons_cons _ (.cons _ (.cons _ (.refl _)))))))
      refine ⟨hH156, ?_⟩
      refine d_end (by kernel_rfl) ?_
      exact ⟨_, _, _, _, row_n (hS155.toHeld.own (.there (.there (.there .here)))) hrc149 (by decide), hrc149, hS155⟩
    ·rintro f158 w159 ⟨a99, n100, c101, cs102, hn103, hrc104, hS157⟩
     subst hn103
     refine c_ret <| ret_none rfl ?_
     obtain ⟨m160, hm161, hS162, hr163⟩ := hS157.freezeR (.there (.there (.there .here))) hrc104 RInt.mono (by decide)
     have le165 := hm161
     replace hr7 := RCs.mono RInt.mono hr7 hm161
     replace hr15 := RSl.mono RInt.mono hr15 hm161
     replace hr22 := RSl.mono RStop.mono hr22 hm161
     replace hr27 := RSl.mono (RS.mono RInt.mono) hr27 hm161
     replace hr36 := ROp.mono RInt.mono hr36 hm161
     replace hr57 := RSl.mono RInt.mono hr57 hm161
     replace hI52 := Imm.mono hI52 hm161
     replace hI65 := Imm.mono hI65 hm161
     replace hrc104 := RCs.mono RInt.mono hrc104 hm161
     obtain ⟨hc166, hM⟩ := chk_ok hM
     have ho167 := ROp.some hr163 hc166
     obtain rfl := some_eq hM
     have hS168 := hS162.front (.there (.there .here))
     have hS169 := hS168.front (.there (.there (.there .here)))
     have hS170 := hS169.front (.there (.there (.there .here)))
     have hS171 := hS170.front (.there (.there (.there .here)))
     exact ⟨m160, a4, y8.length, c6, cs9, a99, r78.length, c101, rfl, le165, row_n (hS171.toHeld.own (.there .here)) hr7 (by decide), hr7, ho167, hS171⟩
   ·replace hM := bif_f h69 hM
    refine wl_on (t := 38) rfl rfl ?_
    refine wl_h hS.toHeld (r_move (v := .int .i64 _) rfl) <| wl_on (t := 38) rfl rfl ?_
    refine wl_h hS.toHeld (r_fieldAddr fld61_2 (b := _) (o := _) rfl) <| wl_on (t := 38) rfl rfl ?_
    refine wl_h hS.toHeld (r_box ty3 (k := 2) (.there (.there .here)) rfl rfl rfl (v := .int .i64 _) rfl) <| wl_on (t := 38) rfl rfl ?_
    refine wl_h hS.toHeld (r_lss (a := _) (b := _) rfl rfl) <| wl_on (t := 34) rfl rfl ?_
    refine wl_h hS.toHeld (r_pick_f rfl (v := .bool _) rfl) <| wl_h hS.toHeld (r_pick_t rfl (v := .bool _) rfl) <| wl_nil <| c_cond (c := _) rfl (fun h172 => ?_) (fun h172 => ?_)
    ·replace hM := bif_t h172 hM
     obtain ⟨r181, hq182, hM⟩ := bnd_ok hM
     have hH208 := (hS.weaken (.cons_cons _ (.cons_cons _ (.cons _ (.cons_cons _ (.refl _)))))).toHeld
     refine c_drawJ (k := 6) (fun f w => ∃ (a202 : Option Addr) (n203 : Nat) (c204 : Nat) (cs205 : List Value), n203 = (r181).length ∧ RCs 1 RInt m cs205 r181 ∧ St w m (.box b3 26 [.slice a4 y8.length c6] :: .row (.slice a4 y8.length c6) 3 1 cs9 :: .box b43 175 [.func (.func 110) #[] #[.pointer (some ⟨b3, 0, none⟩), .pointer (some ⟨b10, 0, none⟩), .pointer (some ⟨b17, 0, none⟩), .pointer (some ⟨b32, 0, none⟩), .pointer (some ⟨b40, 0, none⟩), .pointer (some ⟨b43, 0, none⟩)]] :: .row (.slice a202 n203 c204) 3 1 cs205 :: .box b32 61 [.slice a202 n203 c204, .int .i64 y42, .int .i64 (at2 + x58)] :: L)) (fun w => Held w m (.box b3 26 [.slice a4 y8.length c6] :: .row (.slice a4 y8.length c6) 3 1 cs9 :: .box b43 175 [.func (.func 110) #[] #[.pointer (some ⟨b3, 0, none⟩), .pointer (some ⟨b10, 0, none⟩), .pointer (some ⟨b17, 0, none⟩), .pointer (some ⟨b32, 0, none⟩), .pointer (some ⟨b40, 0, none⟩), .pointer (some ⟨b43, 0, none⟩)]] :: L)) mixed rfl ?_ ?_
     ·replace hH208 := hH208.drew1
      have hS209 := hS.drew1
      refine d_v (i := 0) rfl (by kernel_rfl) rfl (r_box ty26 (k := 0) .here rfl rfl rfl (v := .slice _ _ _) rfl) hH208 ?_
      refine d_v (i := 3) rfl (by kernel_rfl) rfl (r_move (v := .int .i64 _) rfl) hH208 ?_
      refine d_all (rs := [1, 2]) (by kernel_rfl) (by simp) (fun j hj o ho => ?_)
      simp only [List.mem_cons, List.not_mem_nil, or_false] at hj
      rcases hj with rfl | rfl
      ·cases ho
       obtain ⟨m210, hm211, hS212, hr213, back214⟩ := hS209.lend (.there .here) hr7 RInt.mono (by decide)
       have le215 := hm211
       refine wl_call ent17 (vals := [.slice _ _ _]) rfl (cg17 hS212 hr213 hq182) ?_
       rintro _ w223 ⟨a217, n218, c219, cs220, rfl, rfl, hrc221, hS224⟩
       have hS225 := back214 _ _ hS224
       have hrc226 := RCs.move (m' := m) RInt.any hrc221
       refine wl_nil ?_
       have hS228 := hS225.front (.there (.there (.there (.there .here))))
       have hS229 := hS228.front (.there .here)
       have hS230 := hS229.front (.there (.there (.there .here)))
       have hH227 := hS230.toHeld.mono (Mem.le_refl _) (List.Sublist.subset (.cons_cons _ (.cons_cons _ (.cons_cons _ (.cons _ (.cons _ (.refl _)))))))
       refine ⟨hH227, ?_⟩
       refine d_all (rs := [2]) (by kernel_rfl) (by simp) (fun j hj o ho => ?_)
       obtain rfl : j = 2 := by simpa using hj
       cases ho
       refine wl_h hS230.toHeld (r_box ty3 (k := 0) (.there (.there (.there (.there (.there hb41))))) rfl rfl rfl (v := .int .i64 _) rfl) <| wl_nil ?_
       have hH231 := hS230.toHeld.mono (Mem.le_refl _) (List.Sublist.subset (.cons_cons _ (.cons_cons _ (.cons_cons _ (.cons _ (.cons _ (.refl _)))))))
       refine ⟨hH231, ?_⟩
       refine d_v (i := 4) rfl (by kernel_rfl) rfl (r_build ty61 st61 (ps := [(0, [.slice _ _ _]), (1, [.int .i64 _]), (2, [.int .i64 _])]) rfl rfl (cs := [.slice _ _ _, .int .i64 _, .int .i64 _]) rfl) hH231 ?_
       refine d_all (rs := [5]) (by kernel_rfl) (by simp) (fun j hj o ho => ?_)
       obtain rfl : j = 5 := by simpa using hj
       cases ho
       refine wl_store_box ty61 hS230 rfl (v := .agg #[.slice _ _ _, .int .i64 _, .int .i64 _]) rfl (vs := [.slice _ _ _, .int .i64 _, .int .i64 _]) rfl rfl rfl (.there (.there (.there (.there .here)))) (cs' := [.slice _ _ _, .int .i64 _, .int .i64 _]) rfl rfl ?_
       intro w232 hS233
       refine wl_nil ?_
       have hH234 := hS233.toHeld.mono (Mem.le_refl _) (List.Sublist.subset (.cons_cons _ (.cons_cons _ (.cons_cons _ (.cons _ (.cons _ (.refl _)))))))
       refine ⟨hH234, ?_⟩
       refine d_end (by kernel_rfl) ?_
       exact ⟨_, _, _, _, row_n (hS233.toHeld.own (.there (.there (.there .here)))) hrc226 (by decide), hrc226, hS233⟩
      ·cases ho
       refine wl_h hS209.toHeld (r_box ty3 (k := 0) (.there (.there (.there (.there hb41)))) rfl rfl rfl (v := .int .i64 _) rfl) <| wl_nil ?_
       have hH235 := hS209.toHeld.mono (Mem.le_refl _) (List.Sublist.subset (.cons_cons _ (.cons_cons _ (.cons _ (.cons_cons _ (.refl _))))))
       refine ⟨hH235, ?_⟩
       refine d_all (rs := [1]) (by kernel_rfl) (by simp) (fun j hj o ho => ?_)
       obtain rfl : j = 1 := by simpa using hj
       cases ho
       obtain ⟨m236, hm237, hS238, hr239, back240⟩ := hS209.lend (.there .here) hr7 RInt.mono (by decide)
       have le241 := hm237
       refine wl_call ent17 (vals := [.slice _ _ _]) rfl (cg17 hS238 hr239 hq182) ?_
       rintro _ w249 ⟨a243, n244, c245, cs246, rfl, rfl, hrc247, hS250⟩
       have hS251 := back240 _ _ hS250
       have hrc252 := RCs.move (m' := m) RInt.any hrc247
       refine wl_nil ?_
       have hS254 := hS251.front (.there (.there (.there (.there .here))))
       have hS255 := hS254.front (.there .here)
       have hS256 := hS255.front (.there (.there (.there .here)))
       have hH253 := hS256.toHeld.mono (Mem.le_refl _) (List.Sublist.subset (.cons_cons _ (.cons_cons _ (.cons_cons _ (.cons _ (.cons _ (.refl _)))))))
       refine ⟨hH253, ?_⟩
       refine d_v (i := 4) rfl (by kernel_rfl) rfl (r_build ty61 st61 (ps := [(0, [.slice _ _ _]), (1, [.int .i64 _]), (2, [.int .i64 _])]) rfl rfl (cs := [.slice _ _ _, .int .i64 _, .int .i64 _]) rfl) hH253 ?_
       refine d_all (rs := [5]) (by kernel_rfl) (by simp) (fun j hj o ho => ?_)
       obtain rfl : j = 5 := by simpa using hj
       cases ho
       refine wl_store_box ty61 hS256 rfl (v := .agg #[.slice _ _ _, .int .i64 _, .int .i64 _]) rfl (vs := [.slice _ _ _, .int .i64 _, .int .i64 _]) rfl rfl rfl (.there (.there (.there (.there .here)))) (cs' := [.slice _ _ _, .int .i64 _, .int .i64 _]) rfl rfl ?_
       intro w257 hS258
       refine wl_nil ?_
       have hH259 := hS258.toHeld.mono (Mem.le_refl _) (List.Sublist.subset (.cons_cons _ (.cons_cons _ (.cons_cons _ (.cons _ (.cons _ (.refl _)))))))
       refine ⟨hH259, ?_⟩
       refine d_end (by kernel_rfl) ?_
       exact ⟨_, _, _, _, row_n (hS258.toHeld.own (.there (.there (.there .here)))) hrc252 (by decide), hrc252, hS258⟩
     ·rintro f261 w262 ⟨a202, n203, c204, cs205, hn206, hrc207, hS260⟩
      subst hn206
      refine c_ret <| ret_none rfl ?_
      obtain ⟨m263, hm264, hS265, hr266⟩ := hS260.freezeR (.there (.there (.there .here))) hrc207 RInt.mono (by decide)
      have le268 := hm264
      replace hr7 := RCs.mono RInt.mono hr7 hm264
      replace hr15 := RSl.mono RInt.mono hr15 hm264
      replace hr22 := RSl.mono RStop.mono hr22 hm264
      replace hr27 := RSl.mono (RS.mono RInt.mono) hr27 hm264
      replace hr36 := ROp.mono RInt.mono hr36 hm264
      replace hr57 := RSl.mono RInt.mono hr57 hm264
      replace hI52 := Imm.mono hI52 hm264
      replace hI65 := Imm.mono hI65 hm264
      replace hrc207 := RCs.mono RInt.mono hrc207 hm264
      obtain ⟨hc269, hM⟩ := chk_ok hM
      have ho270 := ROp.some hr266 hc269
      obtain rfl := some_eq hM
      have hS271 := hS265.front (.there (.there .here))
      have hS272 := hS271.front (.there (.there (.there .here)))
      have hS273 := hS272.front (.there (.there (.there .here)))
      have hS274 := hS273.front (.there (.there (.there .here)))
      exact ⟨m263, a4, y8.length, c6, cs9, a202, r181.length, c204, rfl, le268, row_n (hS274.toHeld.own (.there .here)) hr7 (by decide), hr7, ho270, hS274⟩
    ·replace hM := bif_f h172 hM
     refine c_skip <| c_ret <| ret_none rfl ?_
     obtain rfl := some_eq hM
     exact ⟨m, a4, y8.length, c6, cs9, a33, (o37.getD []).length, c35, rfl, Mem.le_refl _, row_n (hS.toHeld.own (.there .here)) hr7 (by decide), hr7, hr36, hS⟩
  ·replace hM := bif_f h68 hM
   refine wl_off (t := 34) (b := false) rfl rfl rfl ?_
   refine wl_off (t := 34) (b := false) rfl rfl rfl ?_
   refine wl_off (t := 34) (b := false) rfl rfl rfl ?_
   refine wl_off (t := 34) (b := false) rfl rfl rfl ?_
   refine wl_none (t := 38) rfl rfl ?_
   refine wl_none (t := 38) rfl rfl ?_
   refine wl_none (t := 38) rfl rfl ?_
   refine wl_none (t := 38) rfl rfl ?_
   refine wl_off (t := 34) (b := false) rfl rfl rfl ?_
   refine wl_h hS.toHeld (r_pick_f rfl (v := .bool _) rfl) <| wl_nil <| c_false rfl <| c_skip <| c_ret <| ret_none rfl ?_
   obtain rfl := some_eq hM
   exact ⟨m, a4, y8.length, c6, cs9, a33, (o37.getD []).length, c35, rfl, Mem.le_refl _, row_n (hS.toHeld.own (.there .here)) hr7 (by decide), hr7, hr36, hS⟩
 ·replace hM := bif_f h44 hM
  refine c_skip <| c_seq <| c_region <| wl_h hS.toHeld (r_box ty26 (k := 0) (.there (.there (.there (.there hb11)))) rfl rfl rfl (v := .slice _ _ _) rfl) <| wl_h hS.toHeld (r_len Tryz.underlying26 (a := _) (n := _) (c := _) rfl) ?_
  refine wl_h hS.toHeld (r_move (v := .int .i64 _) rfl) <| wl_nil <| c_block <| c_loop (fun k f w => ∃ (x451 : Int) (y452 : Option (List Int)) (y457 : Int) (y458 : Int) (l459 : List Int) (m448 : Mem) (a453 : Option Addr) (n454 : Nat) (c455 : Nat) (a460 : Option Addr) (n461 : Nat) (c462 : Nat) (cs463 : List Value), mg110_l0 fuel (mg110 fuel) from1 at2 y16 y23 y28 y29 y30 y31 y42 k x451 y452 y457 y458 l459 = some r ∧ m ≤ m448 ∧ ROp 1 RInt m448 a453 n454 c455 y452 ∧ n461 = l459.length ∧ RCs 1 RInt m448 cs463 l459 ∧ St w m448 (.box b3 26 [.slice a460 n461 c462] :: .row (.slice a460 n461 c462) 3 1 cs463 :: .box b32 61 [.slice a453 n454 c455, .int .i64 y457, .int .i64 y458] :: .box b43 175 [.func (.func 110) #[] #[.pointer (some ⟨b3, 0, none⟩), .pointer (some ⟨b10, 0, none⟩), .pointer (some ⟨b17, 0, none⟩), .pointer (some ⟨b32, 0, none⟩), .pointer (some ⟨b40, 0, none⟩), .pointer (some ⟨b43, 0, none⟩)]] :: L) ∧ f 0 = .int .i64 from1 ∧ f 1 = .int .i64 at2 ∧ f 2 = .pointer (some ⟨b3, 0, none⟩) ∧ f 4 = .pointer (some ⟨b17, 0, none⟩) ∧ f 7 = .pointer (some ⟨b43, 0, none⟩) ∧ f 50 = .slice a12 y16.length c14 ∧ f 51 = .int .i64 ((y16.length : Nat) : Int) ∧ f 52 = .int .i64 x451) fuel ⟨0, o37, y38, y39, y8, m, a33, (o37.getD []).length, c35, a4, y8.length, c6, cs9, hM, Mem.le_refl _, hr36, row_n (hS.toHeld.own (.there .here)) hr7 (by decide), hr7, hS, rfl, rfl, rfl, rfl, rfl, rfl, rfl, rfl⟩ ?_
  rintro k_0 f466 w467 ⟨x451, y452, y457, y458, l459, m448, a453, n454, c455, a460, n461, c462, cs463, hM, hm449, ho456, hn464, hrc465, hS469, e470, e471, e472, e473, e474, e475, e476, e477⟩
  replace hr7 := RCs.mono RInt.mono hr7 hm449
  replace hr15 := RSl.mono RInt.mono hr15 hm449
  replace hr22 := RSl.mono RStop.mono hr22 hm449
  replace hr27 := RSl.mono (RS.mono RInt.mono) hr27 hm449
  replace hr36 := ROp.mono RInt.mono hr36 hm449
  have le450 := hm449
  obtain rfl := (ROp.rsl ho456).1
  subst hn464
  refine c_know (t := 0) e470 <| c_know (t := 1) e471 <| c_know (t := 2) e472 <| c_know (t := 4) e473 <| c_know (t := 7) e474 ?_
  refine c_know (t := 50) e475 <| c_know (t := 51) e476 <| c_know (t := 52) e477 ?_
  clear e470 e471 e472 e473 e474 e475 e476 e477
  rcases k_0 with _ | k_0
  · exact none_ne hM
  rw [mg110_l0] at hM
  refine c_seq <| c_region <| wl_h hS469.toHeld (r_lss (a := _) (b := _) rfl rfl) <| wl_nil <| c_seq <| c_cond (c := _) rfl (fun h478 => ?_) (fun h478 => ?_)
  ·replace hM := bif_t h478 hM
   refine c_skip <| c_seq <| c_block <| c_seq <| c_region ?_
   obtain ⟨x479, hx480, h481, h482, hM⟩ := getK_ok hM
   obtain ⟨b483, o484, rfl⟩ := RSl.elem_a hr15 hx480
   obtain ⟨cs485, hI486, hR487⟩ := RSl.elem_at hr15 hx480
   obtain rfl := hR487
   refine wl_h hS469.toHeld (r_indexAddr Tryz.underlying26 ty3 (b := _) (o := _) (n := _) (c := _) (i := x451) rfl rfl h481 (RSl.lt hr15 h482)) <| wl_h hS469.toHeld (r_imm ty3 (k := 0) hI486 rfl rfl rfl (v := .int .i64 _) rfl) <| wl_h hS469.toHeld (r_assign (v := .int .i64 _) rfl) <| wl_nil <| c_seq <| c_seq <| c_region <| wl_h hS469.toHeld (r_box ty26 (k := 0) .here rfl rfl rfl (v := .slice _ _ _) rfl) ?_
   refine wl_h hS469.toHeld (r_move (v := .int .i64 _) rfl) ?_
   obtain ⟨m488, hm489, hS490, hr491, back492⟩ := hS469.lend (.there .here) hrc465 RInt.mono (by decide)
   have le493 := hm489
   obtain ⟨r494, hq495, hM⟩ := bnd_ok hM
   refine wl_call ent111 (vals := [.slice _ _ _, .int .i64 _]) rfl (cg111 hS490 hr491 hq495) ?_
   rintro _ w497 ⟨rfl, hS498⟩
   have hS499 := back492 _ _ hS498
   refine wl_nil <| c_cond (c := _) rfl (fun h500 => ?_) (fun h500 => ?_)
   ·replace hM := bif_t h500 hM
    refine c_exit <| q_hit <| c_region ?_
    obtain ⟨hc501, hM⟩ := chk_ok hM
    refine wl_h hS499.toHeld (r_add (a := _) (b := _) rfl rfl (ok_lo hc501) (ok_hi hc501)) <| wl_h hS499.toHeld (r_move (v := .int .i64 _) rfl) <| wl_nil <| c_nil <| q_loop ?_
    have hS502 := hS499.front (.there (.there (.there .here)))
    have hS503 := hS502.front (.there (.there (.there .here)))
    have hS504 := hS503.front (.there (.there .here))
    have hS505 := hS504.front (.there (.there (.there .here)))
    exact ⟨k_0, Nat.lt_succ_self _, x451 + 1, y452, y457, y458, l459, m448, a453, (y452.getD []).length, c455, a460, l459.length, c462, cs463, hM, le450, ho456, row_n (hS505.toHeld.own (.there .here)) hrc465 (by decide), hrc465, hS505, rfl, rfl, rfl, rfl, rfl, rfl, rfl, rfl⟩
   ·replace hM := bif_f h500 hM
    refine c_skip <| c_seq <| c_region <| wl_h hS499.toHeld (r_box ty25 (k := 0) (.there (.there (.there (.there hb18)))) rfl rfl rfl (v := .agg #[.slice _ _ _, .slice _ _ _, .int .i64 _, .int .i64 _, .int .i64 _]) rfl) <| wl_h hS499.toHeld (r_move (v := .int .i64 _) rfl) ?_
    refine wl_h hS499.toHeld (r_move (v := .int .i64 _) rfl) <| wl_h hS499.toHeld (r_move (v := .int .i64 _) rfl) ?_
    obtain ⟨r506, hq507, hM⟩ := bnd_ok hM
    refine wl_call ent108 (vals := [.agg #[.slice _ _ _, .slice _ _ _, .int .i64 _, .int .i64 _, .int .i64 _], .int .i64 _, .int .i64 _, .int .i64 _]) rfl (cg108 hS499 ⟨_, _, _, _, _, _, rfl, hr22, hr27⟩ hq507) ?_
    rintro _ w509 ⟨rfl, hS510⟩
    refine wl_h hS510.toHeld (r_move (v := .tuple #[.int .i64 _, .int .i64 _, .bool _]) rfl) <| wl_h hS510.toHeld (r_extract (vs := [.int .i64 _, .int .i64 _, .bool _]) rfl (v := .int .i64 _) rfl) <| wl_h hS510.toHeld (r_extract (vs := [.int .i64 _, .int .i64 _, .bool _]) rfl (v := .int .i64 _) rfl) <| wl_h hS510.toHeld (r_extract (vs := [.int .i64 _, .int .i64 _, .bool _]) rfl (v := .bool _) rfl) <| wl_h hS510.toHeld (r_assign (v := .int .i64 _) rfl) ?_
    refine wl_h hS510.toHeld (r_assign (v := .int .i64 _) rfl) <| wl_h hS510.toHeld (r_assign (v := .bool _) rfl) <| wl_nil <| c_seq <| c_region <| wl_h hS510.toHeld (r_move (v := .bool _) rfl) ?_
    refine wl_nil <| c_cond (c := _) rfl (fun h511 => ?_) (fun h511 => ?_)
    ·replace hM := bif_t h511 hM
     refine c_seq <| c_region <| wl_h hS510.toHeld (r_box ty26 (k := 0) (.there .here) rfl rfl rfl (v := .slice _ _ _) rfl) <| wl_h hS510.toHeld (r_move (v := .int .i64 _) rfl) <| wl_buildSlice Tryz.underlying26 ty3 rfl (by decide) (by decide) hS510 (ps := [(0, [.int .i64 _])]) rfl rfl (cs := [.int .i64 _]) rfl rfl (by decide) ?_
     intro b513 w514 hS515
     have hrc516 : RCs 1 RInt m448 [.int .i64 x479] ([x479] : List Int) := (RCs.cons (d := [.int .i64 x479]) rfl rfl RCs.nil)
     obtain ⟨hc517, hM⟩ := chk_ok hM
     refine wl_append_src Tryz.underlying26 ty3 rfl (by decide) hS515 (a := _) (nn := _) (c := _) rfl (a2 := _) (k2 := _) (c2 := _) rfl (.there .here) (row_src (hS515.toHeld.own .here) (RCs.allOne RInt.one (by decide) hrc516)) (lim_b hc517 rfl) (lim_a hc517) ?_
     intro a518 c519 w520 hS521
     have hrc523 := RCs.append hrc465 hrc516
     generalize cs463 ++ [.int .i64 x479] = cs524 at hS521 hrc523
     have hS525 := hS521.weaken (.cons_cons _ (.cons _ (.cons_cons _ (.cons_cons _ (.cons_cons _ (.refl _))))))
     refine wl_store_box ty26 hS525 rfl (v := .slice _ _ _) rfl (vs := [.slice _ _ _]) rfl rfl rfl (.there .here) (cs' := [.slice _ _ _]) rfl rfl ?_
     intro w526 hS527
     refine wl_nil <| c_seq <| c_region <| wl_h hS527.toHeld (r_box ty175 (k := 0) (.there (.there (.there .here))) rfl rfl rfl (v := .func (.func 110) #[] #[.pointer (some ⟨_, _, none⟩), .pointer (some ⟨_, _, none⟩), .pointer (some ⟨_, _, none⟩), .pointer (some ⟨_, _, none⟩), .pointer (some ⟨_, _, none⟩), .pointer (some ⟨_, _, none⟩)]) rfl) <| wl_h hS527.toHeld (r_move (v := .int .i64 _) rfl) ?_
     obtain ⟨hc528, hM⟩ := chk_ok hM
     refine wl_h hS527.toHeld (r_add (a := _) (b := _) rfl rfl (ok_lo hc528) (ok_hi hc528)) <| wl_h hS527.toHeld (r_move (v := .int .i64 _) rfl) ?_
     have hS529 := hS527.front (.there (.there (.there .here)))
     have hS530 := hS529.front (.there (.there (.there .here)))
     have hS531 := hS530.front (.there (.there .here))
     have hS532 := hS531.front (.there (.there (.there .here)))
     obtain ⟨r533, hq534, hM⟩ := bnd_ok hM
     refine wl_callv ent110 (caps := [.pointer (some ⟨_, _, none⟩), .pointer (some ⟨_, _, none⟩), .pointer (some ⟨_, _, none⟩), .pointer (some ⟨_, _, none⟩), .pointer (some ⟨_, _, none⟩), .pointer (some ⟨_, _, none⟩)]) rfl (vals := [.int .i64 _, .int .i64 _]) rfl (ih hS532 hrc523 ho456 hr15 hb11 hr22 hr27 hb18 hb41 hq534) ?_
     rintro _ w547 ⟨m535, a537, n538, c539, cs540, a543, n544, c545, rfl, hm536, rfl, hrc541, ho546, hS548⟩
     obtain rfl := (ROp.rsl ho546).1
     have le549 := Mem.le_trans le450 hm536
     replace hr7 := RCs.mono RInt.mono hr7 hm536
     replace hr15 := RSl.mono RInt.mono hr15 hm536
     replace hr22 := RSl.mono RStop.mono hr22 hm536
     replace hr27 := RSl.mono (RS.mono RInt.mono) hr27 hm536
     replace hr36 := ROp.mono RInt.mono hr36 hm536
     replace ho456 := ROp.mono RInt.mono ho456 hm536
     replace hrc465 := RCs.mono RInt.mono hrc465 hm536
     replace hI486 := Imm.mono hI486 hm536
     replace hrc516 := RCs.mono RInt.mono hrc516 hm536
     replace hrc523 := RCs.mono RInt.mono hrc523 hm536
     refine wl_nil <| c_region <| wl_h hS548.toHeld (r_box ty26 (k := 0) .here rfl rfl rfl (v := .slice _ _ _) rfl) <| wl_h hS548.toHeld (r_box ty26 (k := 0) .here rfl rfl rfl (v := .slice _ _ _) rfl) <| wl_h hS548.toHeld (r_len Tryz.underlying26 (a := _) (n := _) (c := _) rfl) ?_
     obtain ⟨hc550, hM⟩ := chk_ok hM
     refine wl_h hS548.toHeld (r_sub (a := _) (b := _) rfl rfl (ok_lo hc550) (ok_hi hc550)) ?_
     obtain ⟨hc551, hM⟩ := chk_ok hM
     refine wl_h hS548.toHeld (r_slice_hi Tryz.underlying26 ty3 (a := _) (n := _) (c := _) (h := ((r533.1.length : Nat) : Int) - 1) rfl rfl (upto_0 hc551) (upto_c hc551 (row_cap (hS548.toHeld.own (.there .here))))) ?_
     have hrc553 := RCs.take hrc541 (((r533.1.length : Nat) : Int) - 1).toNat (by rw [← row_n (hS548.toHeld.own (.there .here)) hrc541 (by decide)]; exact upto_n hc551)
     have hS552 := hS548.trunc (k := (((r533.1.length : Nat) : Int) - 1).toNat) (upto_n hc551) (.there .here)
     generalize cs540.take ((((r533.1.length : Nat) : Int) - 1).toNat * 1) = cs554 at hS552 hrc553
     refine wl_store_box ty26 hS552 rfl (v := .slice _ _ _) rfl (vs := [.slice _ _ _]) rfl rfl rfl .here (cs' := [.slice _ _ _]) rfl rfl ?_
     intro w555 hS556
     refine wl_nil <| c_nil <| q_norm <| c_region ?_
     obtain ⟨hc557, hM⟩ := chk_ok hM
     refine wl_h hS556.toHeld (r_add (a := _) (b := _) rfl rfl (ok_lo hc557) (ok_hi hc557)) <| wl_h hS556.toHeld (r_move (v := .int .i64 _) rfl) <| wl_nil <| c_nil <| q_loop ?_
     exact ⟨k_0, Nat.lt_succ_self _, x451 + 1, r533.2.1, r533.2.2.1, r533.2.2.2, (r533.1.take (((r533.1.length : Nat) : Int) - 1).toNat), m535, a543, (r533.2.1.getD []).length, c545, a537, (((r533.1.length : Nat) : Int) - 1).toNat, c539, cs554, hM, le549, ho546, row_n (hS556.toHeld.own (.there .here)) hrc553 (by decide), hrc553, hS556, rfl, rfl, rfl, rfl, rfl, rfl, rfl, rfl⟩
    ·replace hM := bif_f h511 hM
     refine c_skip <| c_nil <| q_norm <| c_region ?_
     obtain ⟨hc558, hM⟩ := chk_ok hM
     refine wl_h hS510.toHeld (r_add (a := _) (b := _) rfl rfl (ok_lo hc558) (ok_hi hc558)) <| wl_h hS510.toHeld (r_move (v := .int .i64 _) rfl) <| wl_nil <| c_nil <| q_loop ?_
     have hS559 := hS510.front (.there (.there (.there .here)))
     have hS560 := hS559.front (.there (.there (.there .here)))
     have hS561 := hS560.front (.there (.there .here))
     have hS562 := hS561.front (.there (.there (.there .here)))
     exact ⟨k_0, Nat.lt_succ_self _, x451 + 1, y452, y457, y458, l459, m448, a453, (y452.getD []).length, c455, a460, l459.length, c462, cs463, hM, le450, ho456, row_n (hS562.toHeld.own (.there .here)) hrc465 (by decide), hrc465, hS562, rfl, rfl, rfl, rfl, rfl, rfl, rfl, rfl⟩
  ·replace hM := bif_f h478 hM
   refine c_exit <| q_loopx <| q_hit <| c_nil <| end_none rfl ?_
   obtain rfl := some_eq hM
   exact ⟨m448, a460, l459.length, c462, cs463, a453, (y452.getD []).length, c455, rfl, le450, row_n (hS469.toHeld.own (.there .here)) hrc465 (by decide), hrc465, ho456, hS469⟩
theorem cg110 {m : Mem} {L : List Atom} {w : World} {b3 : Nat} {a4 : Option Addr} {n5 c6 : Nat} {cs9 : List Value} {y8 : List Int} {b32 : Nat} {a33 : Option Addr} {n34 c35 : Nat} {o37 : Option (List Int)} {y38 : Int} {y39 : Int} {b43 : Nat} {from1 : Int} {at2 : Int} {b10 : Nat} {a12 : Option Addr} {n13 c14 : Nat} {y16 : (List Int)} {b17 : Nat} {a19 : Option Addr} {n20 c21 : Nat} {y23 : (List Stop)} {a24 : Option Addr} {n25 c26 : Nat} {y28 : (List (List Int))} {y29 : Int} {y30 : Int} {y31 : Int} {b40 : Nat} {y42 : Int} (hS : St w m (.box b3 26 [.slice a4 n5 c6] :: .row (.slice a4 n5 c6) 3 1 cs9 :: .box b32 61 [.slice a33 n34 c35, .int .i64 y38, .int .i64 y39] :: .box b43 175 [.func (.func 110) #[] #[.pointer (some ⟨b3, 0, none⟩), .pointer (some ⟨b10, 0, none⟩), .pointer (some ⟨b17, 0, none⟩), .pointer (some ⟨b32, 0, none⟩), .pointer (some ⟨b40, 0, none⟩), .pointer (some ⟨b43, 0, none⟩)]] :: L)) (hr7 : RCs 1 RInt m cs9 y8) (hr36 : ROp 1 RInt m a33 n34 c35 o37)  (hr15 : RSl 1 RInt m a12 n13 c14 y16) (hb11 : K.Own L (.box b10 26 [.slice a12 n13 c14])) (hr22 : RSl 5 RStop m a19 n20 c21 y23) (hr27 : RSl 1 (RS 1 RInt) m a24 n25 c26 y28) (hb18 : K.Own L (.box b17 25 [.slice a19 n20 c21, .slice a24 n25 c26, .int .i64 y29, .int .i64 y30, .int .i64 y31])) (hb41 : K.Own L (.box b40 3 [.int .i64 y42])) {fuel : Nat} {r : (List Int) × (Option (List Int)) × Int × Int} (hM : mg110 fuel from1 at2 y8 y16 y23 y28 y29 y30 y31 o37 y38 y39 y42 = some r) : Calls P0 110 [.int .i64 from1, .int .i64 at2, .pointer (some ⟨b3, 0, none⟩), .pointer (some ⟨b10, 0, none⟩), .pointer (some ⟨b17, 0, none⟩), .pointer (some ⟨b32, 0, none⟩), .pointer (some ⟨b40, 0, none⟩), .pointer (some ⟨b43, 0, none⟩)].toArray w (Ret fun v w' => ∃ (m' : Mem) (a0 : Option Addr) (n0 : Nat) (c0 : Nat) (cs0 : List Value) (a1 : Option Addr) (n1 : Nat) (c1 : Nat), v = .tuple #[] ∧ m ≤ m' ∧ n0 = r.1.length ∧ RCs 1 RInt m' cs0 r.1 ∧ ROp 1 RInt m' a1 n1 c1 r.2.1 ∧ St w' m' (.box b3 26 [.slice a0 n0 c0] :: .row (.slice a0 n0 c0) 3 1 cs0 :: .box b32 61 [.slice a1 n1 c1, .int .i64 r.2.2.1, .int .i64 r.2.2.2] :: .box b43 175 [.func (.func 110) #[] #[.pointer (some ⟨b3, 0, none⟩), .pointer (some ⟨b10, 0, none⟩), .pointer (some ⟨b17, 0, none⟩), .pointer (some ⟨b32, 0, none⟩), .pointer (some ⟨b40, 0, none⟩), .pointer (some ⟨b43, 0, none⟩)]] :: L)) := by
 exact cg110_all fuel hS hr7 hr36 hr15 hb11 hr22 hr27 hb18 hb41 hM

theorem cg72 {m : Mem} {L : List Atom} {w : World} {cs1 : List Value} {f3 : Fleet} {a13 : Option Addr} {n14 c15 : Nat} {stops17 : List Int} (hS : St w m L) (hx2 : RFleet m cs1 f3) (hr16 : RSl 1 RInt m a13 n14 c15 stops17) {fuel : Nat} {r : Tour × Bool} (hM : mg72 fuel f3 stops17 = some r) : Calls P0 72 [.agg cs1.toArray, .slice a13 n14 c15].toArray w (Ret fun v w' => ∃ (m' : Mem) (a0 : Option Addr) (n0 : Nat) (c0 : Nat), v = .tuple #[.agg #[.slice a0 n0 c0, .int .i64 r.1.leave, .int .i64 r.1.fin], .bool r.2] ∧ m ≤ m' ∧ RSl 1 RInt m' a0 n0 c0 r.1.stops ∧ St w' m' (L)) := by
 rw [mg72] at hM
 have hk12 := hx2
 obtain ⟨a4, n5, c6, a8, n9, c10, rfl, hr7, hr11⟩ := hx2
 obtain rfl := hr7.1
 obtain rfl := hr11.1
 obtain rfl := hr16.1
 refine enter Tryz.func72 rfl Tryz.ntmps72 (Nat.le_of_ble_eq_true rfl) ?_
 refine c_seq <| c_region <| wl_box hS (v := .agg #[.slice _ _ _, .slice _ _ _, .int .i64 _, .int .i64 _, .int .i64 _]) rfl (cs := [.slice _ _ _, .slice _ _ _, .int .i64 _, .int .i64 _, .int .i64 _]) rfl ?_
 intro b18 w19 hS20
 refine wl_box hS20 (v := .slice _ _ _) rfl (cs := [.slice _ _ _]) rfl ?_
 intro b21 w22 hS23
 refine wl_alloc ty61 rfl hS23 ?_
 intro b24 w25 hS26
 refine wl_h hS26.toHeld (r_assign (v := .bool _) rfl) <| wl_nil <| c_seq <| c_seq ?_
 have hH35 := (hS26.weaken (.cons_cons _ (.cons_cons _ (.cons_cons _ (.refl _))))).toHeld
 refine c_draw (k := 6) (fun w => Held w m (.box b24 61 [.slice none 0 0, .int .i64 0, .int .i64 0] :: .box b21 26 [.slice a13 stops17.length c15] :: .box b18 25 [.slice a4 f3.stops.length c6, .slice a8 f3.minutes.length c10, .int .i64 f3.cap, .int .i64 f3.start, .int .i64 f3.back] :: L)) mixed rfl ?_
 replace hH35 := hH35.drew1
 have hS36 := hS26.drew1
 refine d_v (i := 0) rfl (by kernel_rfl) rfl (r_box ty25 (k := 0) (.there (.there .here)) rfl rfl rfl (v := .agg #[.slice _ _ _, .slice _ _ _, .int .i64 _, .int .i64 _, .int .i64 _]) rfl) hH35 ?_
 refine d_v (i := 1) rfl (by kernel_rfl) rfl (r_box ty26 (k := 0) (.there .here) rfl rfl rfl (v := .slice _ _ _) rfl) hH35 ?_
 refine d_v (i := 3) rfl (by kernel_rfl) rfl (r_fieldAddr fld25_2 (b := _) (o := _) rfl) hH35 ?_
 refine d_v (i := 4) rfl (by kernel_rfl) rfl (r_box ty3 (k := 2) (.there (.there .here)) rfl rfl rfl (v := .int .i64 _) rfl) hH35 ?_
 refine d_all (rs := [2]) (by kernel_rfl) (by simp) (fun j hj o ho => ?_)
 obtain rfl : j = 2 := by simpa using hj
 cases ho
 obtain ⟨r37, hq38, hM⟩ := bnd_ok hM
 refine wl_call ent107 (vals := [.agg #[.slice _ _ _, .slice _ _ _, .int .i64 _, .int .i64 _, .int .i64 _], .slice _ _ _]) rfl (cg107 hS36 hk12 hr16 hq38) ?_
 rintro _ w40 ⟨rfl, hS41⟩
 refine wl_nil ?_
 have hH42 := hS41.toHeld.mono (Mem.le_refl _) (List.Sublist.subset (.cons_cons _ (.cons_cons _ (.cons_cons _ (.refl _)))))
 refine ⟨hH42, ?_⟩
 refine d_v (i := 5) rfl (by kernel_rfl) rfl (r_gtr (a := _) (b := _) rfl rfl) hH42 ?_
 refine d_end (by kernel_rfl) ?_
 refine c_cond (c := _) rfl (fun h43 => ?_) (fun h43 => ?_)
 ·replace hM := bif_t h43 hM
  refine c_seq <| c_region <| wl_h hS41.toHeld (r_build ty61 st61 (ps := []) rfl rfl (cs := [.slice _ _ _, .int .i64 _, .int .i64 _]) rfl) <| wl_store_box ty61 hS41 rfl (v := .agg #[.slice _ _ _, .int .i64 _, .int .i64 _]) rfl (vs := [.slice _ _ _, .int .i64 _, .int .i64 _]) rfl rfl rfl .here (cs' := [.slice _ _ _, .int .i64 _, .int .i64 _]) rfl rfl ?_
  intro w44 hS45
  refine wl_h hS45.toHeld (r_assign (v := .bool _) rfl) <| wl_nil <| c_ret <| ret_many rfl (.cell (v := .agg #[.slice _ _ _, .int .i64 _, .int .i64 _]) rfl (ty61.run_loadVar (cs := [.slice _ _ _, .int .i64 _, .int .i64 _]) (box_at (hS45.toHeld.own .here)) rfl) (.tmp (v := .bool _) rfl .nil)) ?_
  obtain rfl := some_eq hM
  have hS46 := hS45.weaken (.cons _ (.cons _ (.cons _ (.refl _))))
  exact ⟨m, none, 0, 0, rfl, Mem.le_refl _, RSl.nil, hS46⟩
 ·replace hM := bif_f h43 hM
  refine c_skip <| c_seq <| c_region <| wl_alloc ty61 rfl hS41 ?_
  intro b47 w48 hS49
  refine wl_nil <| c_seq <| c_region <| wl_h hS49.toHeld (r_box ty25 (k := 0) (.there (.there (.there .here))) rfl rfl rfl (v := .agg #[.slice _ _ _, .slice _ _ _, .int .i64 _, .int .i64 _, .int .i64 _]) rfl) <| wl_h hS49.toHeld (r_box ty26 (k := 0) (.there (.there .here)) rfl rfl rfl (v := .slice _ _ _) rfl) ?_
  obtain ⟨r50, hq51, hM⟩ := bnd_ok hM
  refine wl_call ent67 (vals := [.agg #[.slice _ _ _, .slice _ _ _, .int .i64 _, .int .i64 _, .int .i64 _], .slice _ _ _]) rfl (cg67 hS49 hk12 hr16 hq51) ?_
  rintro _ w53 ⟨rfl, hS54⟩
  refine wl_alloc ty3 rfl hS54 ?_
  intro b55 w56 hS57
  refine wl_store_box ty3 hS57 rfl (v := .int .i64 _) rfl (vs := [.int .i64 _]) rfl rfl rfl .here (cs' := [.int .i64 _]) rfl rfl ?_
  intro w58 hS59
  refine wl_nil <| c_seq <| c_region <| wl_alloc ty26 rfl hS59 ?_
  intro b60 w61 hS62
  refine wl_nil <| c_seq <| c_region <| wl_alloc ty175 rfl hS62 ?_
  intro b63 w64 hS65
  refine wl_nil <| c_seq <| c_region <| wl_h hS65.toHeld (r_makeFunc (vs := [.pointer (some ⟨_, _, none⟩), .pointer (some ⟨_, _, none⟩), .pointer (some ⟨_, _, none⟩), .pointer (some ⟨_, _, none⟩), .pointer (some ⟨_, _, none⟩), .pointer (some ⟨_, _, none⟩)]) rfl) <| wl_store_box ty175 hS65 rfl (v := .func (.func 110) #[] #[.pointer (some ⟨_, _, none⟩), .pointer (some ⟨_, _, none⟩), .pointer (some ⟨_, _, none⟩), .pointer (some ⟨_, _, none⟩), .pointer (some ⟨_, _, none⟩), .pointer (some ⟨_, _, none⟩)]) rfl (vs := [.func (.func 110) #[] #[.pointer (some ⟨_, _, none⟩), .pointer (some ⟨_, _, none⟩), .pointer (some ⟨_, _, none⟩), .pointer (some ⟨_, _, none⟩), .pointer (some ⟨_, _, none⟩), .pointer (some ⟨_, _, none⟩)]]) rfl rfl rfl .here (cs' := [.func (.func 110) #[] #[.pointer (some ⟨_, _, none⟩), .pointer (some ⟨_, _, none⟩), .pointer (some ⟨_, _, none⟩), .pointer (some ⟨_, _, none⟩), .pointer (some ⟨_, _, none⟩), .pointer (some ⟨_, _, none⟩)]]) rfl rfl ?_
  intro w66 hS67
  refine wl_nil <| c_seq <| c_region <| wl_h hS67.toHeld (r_box ty175 (k := 0) .here rfl rfl rfl (v := .func (.func 110) #[] #[.pointer (some ⟨_, _, none⟩), .pointer (some ⟨_, _, none⟩), .pointer (some ⟨_, _, none⟩), .pointer (some ⟨_, _, none⟩), .pointer (some ⟨_, _, none⟩), .pointer (some ⟨_, _, none⟩)]) rfl) <| wl_h hS67.toHeld (r_box ty3 (k := 0) (.there (.there .here)) rfl rfl rfl (v := .int .i64 _) rfl) ?_
  have hS68 := hS67.nilRow 3 1
  have hrc70 : RCs 1 RInt m [] ([] : List Int) := RCs.nil
  have hS71 := hS68.front (.there .here)
  have hS72 := hS71.front (.there (.there (.there (.there .here))))
  have hS73 := hS72.front (.there (.there .here))
  have hS74 := hS73.front (.there (.there (.there .here)))
  obtain ⟨r75, hq76, hM⟩ := bnd_ok hM
  refine wl_callv ent110 (caps := [.pointer (some ⟨_, _, none⟩), .pointer (some ⟨_, _, none⟩), .pointer (some ⟨_, _, none⟩), .pointer (some ⟨_, _, none⟩), .pointer (some ⟨_, _, none⟩), .pointer (some ⟨_, _, none⟩)]) rfl (vals := [.int .i64 _, .int .i64 _]) rfl (cg110 hS74 hrc70 ROp.nil hr16 (.there (.there .here)) hr7 hr11 (.there (.there (.there .here))) .here hq76) ?_
  rintro _ w89 ⟨m77, a79, n80, c81, cs82, a85, n86, c87, rfl, hm78, rfl, hrc83, ho88, hS90⟩
  obtain rfl := (ROp.rsl ho88).1
  have le91 := hm78
  replace hk12 := RFleet.mono _ _ _ _ hk12 hm78
  replace hr7 := RSl.mono RStop.mono hr7 hm78
  replace hr11 := RSl.mono (RS.mono RInt.mono) hr11 hm78
  replace hr16 := RSl.mono RInt.mono hr16 hm78
  replace hrc70 := RCs.mono RInt.mono hrc70 hm78
  refine wl_nil <| c_seq ?_
  have hH97 := (hS90.weaken (.cons_cons _ (.cons_cons _ (.cons_cons _ (.cons_cons _ (.cons_cons _ (.cons _ (.cons_cons _ (.cons_cons _ (.refl _)))))))))).toHeld
  refine c_draw (k := 6) (fun w => Held w m77 (.box b60 26 [.slice a79 r75.1.length c81] :: .row (.slice a79 r75.1.length c81) 3 1 cs82 :: .box b47 61 [.slice a85 ((r75.2.1.getD []).length) c87, .int .i64 r75.2.2.1, .int .i64 r75.2.2.2] :: .box b63 175 [.func (.func 110) #[] #[.pointer (some ⟨b60, 0, none⟩), .pointer (some ⟨b21, 0, none⟩), .pointer (some ⟨b18, 0, none⟩), .pointer (some ⟨b47, 0, none⟩), .pointer (some ⟨b55, 0, none⟩), .pointer (some ⟨b63, 0, none⟩)]] :: .box b55 3 [.int .i64 r50] :: .box b21 26 [.slice a13 stops17.length c15] :: .box b18 25 [.slice a4 f3.stops.length c6, .slice a8 f3.minutes.length c10, .int .i64 f3.cap, .int .i64 f3.start, .int .i64 f3.back] :: L)) mixed rfl ?_
  replace hH97 := hH97.drew1
  have hS98 := hS90.drew1
  refine d_v (i := 0) rfl (by kernel_rfl) rfl (r_box ty61 (k := 0) (.there (.there .here)) rfl rfl rfl (v := .agg #[.slice _ _ _, .int .i64 _, .int .i64 _]) rfl) hH97 ?_
  refine d_v (i := 1) rfl (by kernel_rfl) rfl (r_fieldAddr fld61_0 (b := _) (o := _) rfl) hH97 ?_
  refine d_v (i := 2) rfl (by kernel_rfl) rfl (r_box ty26 (k := 0) (.there (.there .here)) rfl rfl rfl (v := .slice _ _ _) rfl) hH97 ?_
  refine d_v (i := 3) rfl (by kernel_rfl) rfl (r_nil_neqO Tryz.underlying26 rfl rfl (ROp.isSome ho88)) hH97 ?_
  refine d_all (rs := [4]) (by kernel_rfl) (by simp) (fun j hj o ho => ?_)
  obtain rfl : j = 4 := by simpa using hj
  cases ho
  refine wl_store_box ty61 hS98 rfl (v := .agg #[.slice _ _ _, .int .i64 _, .int .i64 _]) rfl (vs := [.slice _ _ _, .int .i64 _, .int .i64 _]) rfl rfl rfl (.there (.there (.there (.there (.there .here))))) (cs' := [.slice _ _ _, .int .i64 _, .int .i64 _]) rfl rfl ?_
  intro w99 hS100
  refine wl_nil ?_
  have hH101 := hS100.toHeld.mono (Mem.le_refl _) (List.Sublist.subset (.cons_cons _ (.cons_cons _ (.cons_cons _ (.cons_cons _ (.cons_cons _ (.cons _ (.cons_cons _ (.cons_cons _ (.refl _))))))))))
  refine ⟨hH101, ?_⟩
  refine d_v (i := 5) rfl (by kernel_rfl) rfl (r_assign (v := .bool _) rfl) hH101 ?_
  refine d_end (by kernel_rfl) ?_
  refine c_ret <| ret_many rfl (.cell (v := .agg #[.slice _ _ _, .int .i64 _, .int .i64 _]) rfl (ty61.run_loadVar (cs := [.slice _ _ _, .int .i64 _, .int .i64 _]) (box_at (hS100.toHeld.own (.there (.there (.there (.there (.there .here))))))) rfl) (.tmp (v := .bool _) rfl .nil)) ?_
  obtain rfl := some_eq hM
  have hS102 := hS100.weaken (.cons _ (.cons _ (.cons _ (.cons _ (.cons _ (.cons _ (.cons _ (.cons _ (.refl _)))))))))
  exact ⟨m77, a85, (r75.2.1.getD []).length, c87, rfl, le91, (ROp.rsl ho88), hS102⟩

theorem cg24 {m : Mem} {L : List Atom} {w : World} {cs1 : List Value} {f3 : Fleet} {a13 : Option Addr} {n14 c15 : Nat} {stops17 : List Int} (hS : St w m L) (hx2 : RFleet m cs1 f3) (hr16 : RSl 1 RInt m a13 n14 c15 stops17) {fuel : Nat} {r : Tour × Int} (hM : mg24 fuel f3 stops17 = some r) : Calls P0 24 [.agg cs1.toArray, .slice a13 n14 c15].toArray w (Ret fun v w' => ∃ (m' : Mem) (a0 : Option Addr) (n0 : Nat) (c0 : Nat), v = .tuple #[.agg #[.slice a0 n0 c0, .int .i64 r.1.leave, .int .i64 r.1.fin], .int .i64 r.2] ∧ m ≤ m' ∧ RSl 1 RInt m' a0 n0 c0 r.1.stops ∧ St w' m' (L)) := by
 rw [mg24] at hM
 have hk12 := hx2
 obtain ⟨a4, n5, c6, a8, n9, c10, rfl, hr7, hr11⟩ := hx2
 obtain rfl := hr7.1
 obtain rfl := hr11.1
 obtain rfl := hr16.1
 refine enter Tryz.func24 rfl Tryz.ntmps24 (Nat.le_of_ble_eq_true rfl) ?_
 refine c_seq <| c_region <| wl_box hS (v := .agg #[.slice _ _ _, .slice _ _ _, .int .i64 _, .int .i64 _, .int .i64 _]) rfl (cs := [.slice _ _ _, .slice _ _ _, .int .i64 _, .int .i64 _, .int .i64 _]) rfl ?_
 intro b18 w19 hS20
 refine wl_alloc ty61 rfl hS20 ?_
 intro b21 w22 hS23
 refine wl_h hS23.toHeld (r_assign (v := .int .i64 _) rfl) <| wl_nil <| c_seq <| c_seq <| c_region <| wl_h hS23.toHeld (r_box ty25 (k := 0) (.there .here) rfl rfl rfl (v := .agg #[.slice _ _ _, .slice _ _ _, .int .i64 _, .int .i64 _, .int .i64 _]) rfl) ?_
 refine wl_h hS23.toHeld (r_move (v := .slice _ _ _) rfl) ?_
 obtain ⟨r24, hq25, hM⟩ := bnd_ok hM
 refine wl_call ent65 (vals := [.agg #[.slice _ _ _, .slice _ _ _, .int .i64 _, .int .i64 _, .int .i64 _], .slice _ _ _]) rfl (cg65 hS23 hk12 hr16 hq25) ?_
 rintro _ w27 ⟨rfl, hS28⟩
 refine wl_h hS28.toHeld (r_assign (v := .int .i64 _) rfl) <| wl_nil <| c_seq <| c_region <| wl_h hS28.toHeld (r_move (v := .int .i64 _) rfl) ?_
 refine wl_h hS28.toHeld (r_neq (a := _) (b := _) rfl rfl) <| wl_nil <| c_cond (c := _) rfl (fun h29 => ?_) (fun h29 => ?_)
 ·replace hM := bif_t h29 hM
  refine c_seq <| c_region <| wl_h hS28.toHeld (r_build ty61 st61 (ps := []) rfl rfl (cs := [.slice _ _ _, .int .i64 _, .int .i64 _]) rfl) <| wl_h hS28.toHeld (r_move (v := .int .i64 _) rfl) <| wl_store_box ty61 hS28 rfl (v := .agg #[.slice _ _ _, .int .i64 _, .int .i64 _]) rfl (vs := [.slice _ _ _, .int .i64 _, .int .i64 _]) rfl rfl rfl .here (cs' := [.slice _ _ _, .int .i64 _, .int .i64 _]) rfl rfl ?_
  intro w30 hS31
  refine wl_h hS31.toHeld (r_assign (v := .int .i64 _) rfl) <| wl_nil <| c_ret <| ret_many rfl (.cell (v := .agg #[.slice _ _ _, .int .i64 _, .int .i64 _]) rfl (ty61.run_loadVar (cs := [.slice _ _ _, .int .i64 _, .int .i64 _]) (box_at (hS31.toHeld.own .here)) rfl) (.tmp (v := .int .i64 _) rfl .nil)) ?_
  obtain rfl := some_eq hM
  have hS32 := hS31.weaken (.cons _ (.cons _ (.refl _)))
  exact ⟨m, none, 0, 0, rfl, Mem.le_refl _, RSl.nil, hS32⟩
 ·replace hM := bif_f h29 hM
  refine c_skip <| c_seq ?_
  obtain ⟨r39, hq40, hM⟩ := bnd_ok hM
  obtain ⟨r57, hq58, hM⟩ := bnd_ok hM
  have hH83 := (hS28.weaken (.cons_cons _ (.cons_cons _ (.refl _)))).toHeld
  refine c_drawJ (k := 11) (fun f w => ∃ (m59 : Mem) (a78 : Option Addr) (n79 : Nat) (c80 : Nat) (b82 : Nat), m ≤ m59 ∧ RSl 1 RInt m59 a78 n79 c80 r57.1.stops ∧ St w m59 (.box b82 61 [.slice a78 n79 c80, .int .i64 r57.1.leave, .int .i64 r57.1.fin] :: .box b21 61 [.slice none 0 0, .int .i64 0, .int .i64 0] :: L) ∧ f 4 = .pointer (some ⟨b21, 0, none⟩) ∧ f 5 = .int .i64 0 ∧ f 7 = .pointer (some ⟨b82, 0, none⟩) ∧ f 8 = .bool r57.2) (fun w => Held w m (.box b21 61 [.slice none 0 0, .int .i64 0, .int .i64 0] :: .box b18 25 [.slice a4 f3.stops.length c6, .slice a8 f3.minutes.length c10, .int .i64 f3.cap, .int .i64 f3.start, .int .i64 f3.back] :: L)) mixed rfl ?_ ?_
  ·replace hH83 := hH83.drew1
   have hS84 := hS28.drew1
   refine d_v (i := 0) rfl (by kernel_rfl) rfl (r_box ty25 (k := 0) (.there .here) rfl rfl rfl (v := .agg #[.slice _ _ _, .slice _ _ _, .int .i64 _, .int .i64 _, .int .i64 _]) rfl) hH83 ?_
   refine d_v (i := 1) rfl (by kernel_rfl) rfl (r_move (v := .slice _ _ _) rfl) hH83 ?_
   refine d_all (rs := [2, 8]) (by kernel_rfl) (by simp) (fun j hj o ho => ?_)
   simp only [List.mem_cons, List.not_mem_nil, or_false] at hj
   rcases hj with rfl | rfl
   ·cases ho
    refine wl_call ent74 (vals := [.slice _ _ _]) rfl (cg74 hS84 hr16) ?_
    rintro _ w86 ⟨b85, rfl, hS87⟩
    refine wl_nil ?_
    have hH88 := hS87.toHeld.mono (Mem.le_refl _) (List.Sublist.subset (.cons _ (.cons_cons _ (.cons_cons _ (.refl _)))))
    refine ⟨hH88, ?_⟩
    refine d_all (rs := [3, 8]) (by kernel_rfl) (by simp) (fun j hj o ho => ?_)
    simp only [List.mem_cons, List.not_mem_nil, or_false] at hj
    rcases hj with rfl | rfl
    ·cases ho
     refine wl_call ent73 (vals := [.func (.func 114) #[] #[.pointer (some ⟨_, _, none⟩)]]) rfl (cg73 hS87 hr16 .here hq40) ?_
     rintro _ w96 ⟨a90, n91, c92, cs93, rfl, rfl, hrc94, hS97⟩
     refine wl_nil ?_
     have hH98 := hS97.toHeld.mono (Mem.le_refl _) (List.Sublist.subset (.cons _ (.cons _ (.cons_cons _ (.cons_cons _ (.refl _))))))
     refine ⟨hH98, ?_⟩
     refine d_all (rs := [4, 8]) (by kernel_rfl) (by simp) (fun j hj o ho => ?_)
     simp only [List.mem_cons, List.not_mem_nil, or_false] at hj
     rcases hj with rfl | rfl
     ·cases ho
      obtain ⟨m99, hm100, hS101, hr102⟩ := hS97.freezeR .here hrc94 RInt.mono (by decide)
      have le104 := hm100
      replace hk12 := RFleet.mono _ _ _ _ hk12 hm100
      replace hr7 := RSl.mono RStop.mono hr7 hm100
      replace hr11 := RSl.mono (RS.mono RInt.mono) hr11 hm100
      replace hr16 := RSl.mono RInt.mono hr16 hm100
      replace hrc94 := RCs.mono RInt.mono hrc94 hm100
      refine wl_call ent72 (vals := [.agg #[.slice _ _ _, .slice _ _ _, .int .i64 _, .int .i64 _, .int .i64 _], .slice _ _ _]) rfl (cg72 hS101 hk12 hr102 hq58) ?_
      rintro _ w111 ⟨m105, a107, n108, c109, rfl, hm106, hr110, hS112⟩
      obtain rfl := hr110.1
      have le113 := Mem.le_trans le104 hm106
      replace hk12 := RFleet.mono _ _ _ _ hk12 hm106
      replace hr7 := RSl.mono RStop.mono hr7 hm106
      replace hr11 := RSl.mono (RS.mono RInt.mono) hr11 hm106
      replace hr16 := RSl.mono RInt.mono hr16 hm106
      replace hrc94 := RCs.mono RInt.mono hrc94 hm106
      replace hr102 := RSl.mono RInt.mono hr102 hm106
      refine wl_nil ?_
      have hH114 := hS112.toHeld.mono le113 (List.Sublist.subset (.cons _ (.cons_cons _ (.cons_cons _ (.refl _)))))
      refine ⟨hH114, ?_⟩
      refine d_v (i := 5) rfl (by kernel_rfl) rfl (r_move (v := .tuple #[.agg #[.slice _ _ _, .int .i64 _, .int .i64 _], .bool _]) rfl) hH114 ?_
      refine d_v (i := 6) rfl (by kernel_rfl) rfl (r_extract (vs := [.agg #[.slice _ _ _, .int .i64 _, .int .i64 _], .bool _]) rfl (v := .agg #[.slice _ _ _, .int .i64 _, .int .i64 _]) rfl) hH114 ?_
      refine d_v (i := 7) rfl (by kernel_rfl) rfl (r_extract (vs := [.agg #[.slice _ _ _, .int .i64 _, .int .i64 _], .bool _]) rfl (v := .bool _) rfl) hH114 ?_
      refine d_all (rs := [8]) (by kernel_rfl) (by simp) (fun j hj o ho => ?_)
      obtain rfl : j = 8 := by simpa using hj
      cases ho
      refine wl_alloc ty61 rfl hS112 ?_
      intro b115 w116 hS117
      refine wl_nil ?_
      have hH118 := hS117.toHeld.mono le113 (List.Sublist.subset (.cons _ (.cons _ (.cons_cons _ (.cons_cons _ (.refl _))))))
      refine ⟨hH118, ?_⟩
      refine d_all (rs := [9]) (by kernel_rfl) (by simp) (fun j hj o ho => ?_)
      obtain rfl : j = 9 := by simpa using hj
      cases ho
      refine wl_store_box ty61 hS117 rfl (v := .agg #[.slice _ _ _, .int .i64 _, .int .i64 _]) rfl (vs := [.slice _ _ _, .int .i64 _, .int .i64 _]) rfl rfl rfl .here (cs' := [.slice _ _ _, .int .i64 _, .int .i64 _]) rfl rfl ?_
      intro w119 hS120
      refine wl_nil ?_
      have hH121 := hS120.toHeld.mono le113 (List.Sublist.subset (.cons _ (.cons _ (.cons_cons _ (.cons_cons _ (.refl _))))))
      refine ⟨hH121, ?_⟩
      refine d_v (i := 10) rfl (by kernel_rfl) rfl (r_assign (v := .bool _) rfl) hH121 ?_
      refine d_end (by kernel_rfl) ?_
      have hS122 := hS120.weaken (.cons_cons _ (.cons _ (.cons_cons _ (.cons _ (.refl _)))))
      exact ⟨_, _, _, _, _, le113, hr110, hS122, rfl, rfl, rfl, rfl⟩
     ·cases ho
      refine wl_alloc ty61 rfl hS97 ?_
      intro b123 w124 hS125
      refine wl_nil ?_
      have hH126 := hS125.toHeld.mono (Mem.le_refl _) (List.Sublist.subset (.cons _ (.cons _ (.cons _ (.cons_cons _ (.cons_cons _ (.refl _)))))))
      refine ⟨hH126, ?_⟩
      refine d_all (rs := [4]) (by kernel_rfl) (by simp) (fun j hj o ho => ?_)
      obtain rfl : j = 4 := by simpa using hj
      cases ho
      obtain ⟨m127, hm128, hS129, hr130⟩ := hS125.freezeR (.there .here) hrc94 RInt.mono (by decide)
      have le132 := hm128
      replace hk12 := RFleet.mono _ _ _ _ hk12 hm128
      replace hr7 := RSl.mono RStop.mono hr7 hm128
      replace hr11 := RSl.mono (RS.mono RInt.mono) hr11 hm128
      replace hr16 := RSl.mono RInt.mono hr16 hm128
      replace hrc94 := RCs.mono RInt.mono hrc94 hm128
      refine wl_call ent72 (vals := [.agg #[.slice _ _ _, .slice _ _ _, .int .i64 _, .int .i64 _, .int .i64 _], .slice _ _ _]) rfl (cg72 hS129 hk12 hr130 hq58) ?_
      rintro _ w139 ⟨m133, a135, n136, c137, rfl, hm134, hr138, hS140⟩
      obtain rfl := hr138.1
      have le141 := Mem.le_trans le132 hm134
      replace hk12 := RFleet.mono _ _ _ _ hk12 hm134
      replace hr7 := RSl.mono RStop.mono hr7 hm134
      replace hr11 := RSl.mono (RS.mono RInt.mono) hr11 hm134
      replace hr16 := RSl.mono RInt.mono hr16 hm134
      replace hrc94 := RCs.mono RInt.mono hrc94 hm134
      replace hr130 := RSl.mono RInt.mono hr130 hm134
      refine wl_nil ?_
      have hH142 := hS140.toHeld.mono le141 (List.Sublist.subset (.cons _ (.cons _ (.cons_cons _ (.cons_cons _ (.refl _))))))
      refine ⟨hH142, ?_⟩
      refine d_v (i := 5) rfl (by kernel_rfl) rfl (r_move (v := .tuple #[.agg #[.slice _ _ _, .int .i64 _, .int .i64 _], .bool _]) rfl) hH142 ?_
      refine d_v (i := 6) rfl (by kernel_rfl) rfl (r_extract (vs := [.agg #[.slice _ _ _, .int .i64 _, .int .i64 _], .bool _]) rfl (v := .agg #[.slice _ _ _, .int .i64 _, .int .i64 _]) rfl) hH142 ?_
      refine d_v (i := 7) rfl (by kernel_rfl) rfl (r_extract (vs := [.agg #[.slice _ _ _, .int .i64 _, .int .i64 _], .bool _]) rfl (v := .bool _) rfl) hH142 ?_
      refine d_all (rs := [9]) (by kernel_rfl) (by simp) (fun j hj o ho => ?_)
      obtain rfl : j = 9 := by simpa using hj
      cases ho
      refine wl_store_box ty61 hS140 rfl (v := .agg #[.slice _ _ _, .int .i64 _, .int .i64 _]) rfl (vs := [.slice _ _ _, .int .i64 _, .int .i64 _]) rfl rfl rfl .here (cs' := [.slice _ _ _, .int .i64 _, .int .i64 _]) rfl rfl ?_
      intro w143 hS144
      refine wl_nil ?_
      have hH145 := hS144.toHeld.mono le141 (List.Sublist.subset (.cons _ (.cons _ (.cons_cons _ (.cons_cons _ (.refl _))))))
      refine ⟨hH145, ?_⟩
      refine d_v (i := 10) rfl (by kernel_rfl) rfl (r_assign (v := .bool _) rfl) hH145 ?_
      refine d_end (by kernel_rfl) ?_
      have hS146 := hS144.weaken (.cons_cons _ (.cons _ (.cons_cons _ (.cons _ (.refl _)))))
      exact ⟨_, _, _, _, _, le141, hr138, hS146, rfl, rfl, rfl, rfl⟩
    ·cases ho
     refine wl_alloc ty61 rfl hS87 ?_
     intro b147 w148 hS149
     refine wl_nil ?_
     have hH150 := hS149.toHeld.mono (Mem.le_refl _) (List.Sublist.subset (.cons _ (.cons _ (.cons_cons _ (.cons_cons _ (.refl _))))))
     refine ⟨hH150, ?_⟩
     refine d_all (rs := [3]) (by kernel_rfl) (by simp) (fun j hj o ho => ?_)
     obtain rfl : j = 3 := by simpa using hj
     cases ho
     refine wl_call ent73 (vals := [.func (.func 114) #[] #[.pointer (some ⟨_, _, none⟩)]]) rfl (cg73 hS149 hr16 (.there .here) hq40) ?_
     rintro _ w158 ⟨a152, n153, c154, cs155, rfl, rfl, hrc156, hS159⟩
     refine wl_nil ?_
     have hH160 := hS159.toHeld.mono (Mem.le_refl _) (List.Sublist.subset (.cons _ (.cons _ (.cons _ (.cons_cons _ (.cons_cons _ (.refl _)))))))
     refine ⟨hH160, ?_⟩
     refine d_all (rs := [4]) (by kernel_rfl) (by simp) (fun j hj o ho => ?_)
     obtain rfl : j = 4 := by simpa using hj
     cases ho
     obtain ⟨m161, hm162, hS163, hr164⟩ := hS159.freezeR .here hrc156 RInt.mono (by decide)
     have le166 := hm162
     replace hk12 := RFleet.mono _ _ _ _ hk12 hm162
     replace hr7 := RSl.mono RStop.mono hr7 hm162
     replace hr11 := RSl.mono (RS.mono RInt.mono) hr11 hm162
     replace hr16 := RSl.mono RInt.mono hr16 hm162
     replace hrc156 := RCs.mono RInt.mono hrc156 hm162
     refine wl_call ent72 (vals := [.agg #[.slice _ _ _, .slice _ _ _, .int .i64 _, .int .i64 _, .int .i64 _], .slice _ _ _]) rfl (cg72 hS163 hk12 hr164 hq58) ?_
     rintro _ w173 ⟨m167, a169, n170, c171, rfl, hm168, hr172, hS174⟩
     obtain rfl := hr172.1
     have le175 := Mem.le_trans le166 hm168
     replace hk12 := RFleet.mono _ _ _ _ hk12 hm168
     replace hr7 := RSl.mono RStop.mono hr7 hm168
     replace hr11 := RSl.mono (RS.mono RInt.mono) hr11 hm168
     replace hr16 := RSl.mono RInt.mono hr16 hm168
     replace hrc156 := RCs.mono RInt.mono hrc156 hm168
     replace hr164 := RSl.mono RInt.mono hr164 hm168
     refine wl_nil ?_
     have hH176 := hS174.toHeld.mono le175 (List.Sublist.subset (.cons _ (.cons _ (.cons_cons _ (.cons_cons _ (.refl _))))))
     refine ⟨hH176, ?_⟩
     refine d_v (i := 5) rfl (by kernel_rfl) rfl (r_move (v := .tuple #[.agg #[.slice _ _ _, .int .i64 _, .int .i64 _], .bool _]) rfl) hH176 ?_
     refine d_v (i := 6) rfl (by kernel_rfl) rfl (r_extract (vs := [.agg #[.slice _ _ _, .int .i64 _, .int .i64 _], .bool _]) rfl (v := .agg #[.slice _ _ _, .int .i64 _, .int .i64 _]) rfl) hH176 ?_
     refine d_v (i := 7) rfl (by kernel_rfl) rfl (r_extract (vs := [.agg #[.slice _ _ _, .int .i64 _, .int .i64 _], .bool _]) rfl (v := .bool _) rfl) hH176 ?_
     refine d_all (rs := [9]) (by kernel_rfl) (by simp) (fun j hj o ho => ?_)
     obtain rfl : j = 9 := by simpa using hj
     cases ho
     refine wl_store_box ty61 hS174 rfl (v := .agg #[.slice _ _ _, .int .i64 _, .int .i64 _]) rfl (vs := [.slice _ _ _, .int .i64 _, .int .i64 _]) rfl rfl rfl .here (cs' := [.slice _ _ _, .int .i64 _, .int .i64 _]) rfl rfl ?_
     intro w177 hS178
     refine wl_nil ?_
     have hH179 := hS178.toHeld.mono le175 (List.Sublist.subset (.cons _ (.cons _ (.cons_cons _ (.cons_cons _ (.refl _))))))
     refine ⟨hH179, ?_⟩
     refine d_v (i := 10) rfl (by kernel_rfl) rfl (r_assign (v := .bool _) rfl) hH179 ?_
     refine d_end (by kernel_rfl) ?_
     have hS180 := hS178.weaken (.cons_cons _ (.cons _ (.cons_cons _ (.cons _ (.refl _)))))
     exact ⟨_, _, _, _, _, le175, hr172, hS180, rfl, rfl, rfl, rfl⟩
   ·cases ho
    refine wl_alloc ty61 rfl hS84 ?_
    intro b181 w182 hS183
    refine wl_nil ?_
    have hH184 := hS183.toHeld.mono (Mem.le_refl _) (List.Sublist.subset (.cons _ (.cons_cons _ (.cons_cons _ (.refl _)))))
    refine ⟨hH184, ?_⟩
    refine d_all (rs := [2]) (by kernel_rfl) (by simp) (fun j hj o ho => ?_)
    obtain rfl : j = 2 := by simpa using hj
    cases ho
    refine wl_call ent74 (vals := [.slice _ _ _]) rfl (cg74 hS183 hr16) ?_
    rintro _ w186 ⟨b185, rfl, hS187⟩
    refine wl_nil ?_
    have hH188 := hS187.toHeld.mono (Mem.le_refl _) (List.Sublist.subset (.cons _ (.cons _ (.cons_cons _ (.cons_cons _ (.refl _))))))
    refine ⟨hH188, ?_⟩
    refine d_all (rs := [3]) (by kernel_rfl) (by simp) (fun j hj o ho => ?_)
    obtain rfl : j = 3 := by simpa using hj
    cases ho
    refine wl_call ent73 (vals := [.func (.func 114) #[] #[.pointer (some ⟨_, _, none⟩)]]) rfl (cg73 hS187 hr16 .here hq40) ?_
    rintro _ w196 ⟨a190, n191, c192, cs193, rfl, rfl, hrc194, hS197⟩
    refine wl_nil ?_
    have hH198 := hS197.toHeld.mono (Mem.le_refl _) (List.Sublist.subset (.cons _ (.cons _ (.cons _ (.cons_cons _ (.cons_cons _ (.refl _)))))))
    refine ⟨hH198, ?_⟩
    refine d_all (rs := [4]) (by kernel_rfl) (by simp) (fun j hj o ho => ?_)
    obtain rfl : j = 4 := by simpa using hj
    cases ho
    obtain ⟨m199, hm200, hS201, hr202⟩ := hS197.freezeR .here hrc194 RInt.mono (by decide)
    have le204 := hm200
    replace hk12 := RFleet.mono _ _ _ _ hk12 hm200
    replace hr7 := RSl.mono RStop.mono hr7 hm200
    replace hr11 := RSl.mono (RS.mono RInt.mono) hr11 hm200
    replace hr16 := RSl.mono RInt.mono hr16 hm200
    replace hrc194 := RCs.mono RInt.mono hrc194 hm200
    refine wl_call ent72 (vals := [.agg #[.slice _ _ _, .slice _ _ _, .int .i64 _, .int .i64 _, .int .i64 _], .slice _ _ _]) rfl (cg72 hS201 hk12 hr202 hq58) ?_
    rintro _ w211 ⟨m205, a207, n208, c209, rfl, hm206, hr210, hS212⟩
    obtain rfl := hr210.1
    have le213 := Mem.le_trans le204 hm206
    replace hk12 := RFleet.mono _ _ _ _ hk12 hm206
    replace hr7 := RSl.mono RStop.mono hr7 hm206
    replace hr11 := RSl.mono (RS.mono RInt.mono) hr11 hm206
    replace hr16 := RSl.mono RInt.mono hr16 hm206
    replace hrc194 := RCs.mono RInt.mono hrc194 hm206
    replace hr202 := RSl.mono RInt.mono hr202 hm206
    refine wl_nil ?_
    have hH214 := hS212.toHeld.mono le213 (List.Sublist.subset (.cons _ (.cons _ (.cons_cons _ (.cons_cons _ (.refl _))))))
    refine ⟨hH214, ?_⟩
    refine d_v (i := 5) rfl (by kernel_rfl) rfl (r_move (v := .tuple #[.agg #[.slice _ _ _, .int .i64 _, .int .i64 _], .bool _]) rfl) hH214 ?_
    refine d_v (i := 6) rfl (by kernel_rfl) rfl (r_extract (vs := [.agg #[.slice _ _ _, .int .i64 _, .int .i64 _], .bool _]) rfl (v := .agg #[.slice _ _ _, .int .i64 _, .int .i64 _]) rfl) hH214 ?_
    refine d_v (i := 7) rfl (by kernel_rfl) rfl (r_extract (vs := [.agg #[.slice _ _ _, .int .i64 _, .int .i64 _], .bool _]) rfl (v := .bool _) rfl) hH214 ?_
    refine d_all (rs := [9]) (by kernel_rfl) (by simp) (fun j hj o ho => ?_)
    obtain rfl : j = 9 := by simpa using hj
    cases ho
    refine wl_store_box ty61 hS212 rfl (v := .agg #[.slice _ _ _, .int .i64 _, .int .i64 _]) rfl (vs := [.slice _ _ _, .int .i64 _, .int .i64 _]) rfl rfl rfl (.there .here) (cs' := [.slice _ _ _, .int .i64 _, .int .i64 _]) rfl rfl ?_
    intro w215 hS216
    refine wl_nil ?_
    have hH217 := hS216.toHeld.mono le213 (List.Sublist.subset (.cons _ (.cons _ (.cons_cons _ (.cons_cons _ (.refl _))))))
    refine ⟨hH217, ?_⟩
    refine d_v (i := 10) rfl (by kernel_rfl) rfl (r_assign (v := .bool _) rfl) hH217 ?_
    refine d_end (by kernel_rfl) ?_
    have hS218 := hS216.weaken (.cons _ (.cons_cons _ (.cons_cons _ (.cons _ (.refl _)))))
    exact ⟨_, _, _, _, _, le213, hr210, hS218, rfl, rfl, rfl, rfl⟩
  ·rintro f224 w225 ⟨m59, a78, n79, c80, b82, hm77, hr81, hS219, e220, e221, e222, e223⟩
   have le226 := hm77
   replace hk12 := RFleet.mono _ _ _ _ hk12 hm77
   replace hr7 := RSl.mono RStop.mono hr7 hm77
   replace hr11 := RSl.mono (RS.mono RInt.mono) hr11 hm77
   replace hr16 := RSl.mono RInt.mono hr16 hm77
   obtain rfl := hr81.1
   refine c_know (t := 4) e220 <| c_know (t := 5) e221 <| c_know (t := 7) e222 <| c_know (t := 8) e223 ?_
   clear e220 e221 e222 e223
   refine c_seq <| c_seq <| c_region <| wl_h hS219.toHeld (r_move (v := .bool _) rfl) <| wl_h hS219.toHeld (r_not (b := _) rfl) ?_
   refine wl_nil <| c_cond (c := _) rfl (fun h227 => ?_) (fun h227 => ?_)
   ·replace hM := bif_t h227 hM
    refine c_seq <| c_region <| wl_h hS219.toHeld (r_build ty61 st61 (ps := []) rfl rfl (cs := [.slice _ _ _, .int .i64 _, .int .i64 _]) rfl) <| wl_store_box ty61 hS219 rfl (v := .agg #[.slice _ _ _, .int .i64 _, .int .i64 _]) rfl (vs := [.slice _ _ _, .int .i64 _, .int .i64 _]) rfl rfl rfl (.there .here) (cs' := [.slice _ _ _, .int .i64 _, .int .i64 _]) rfl rfl ?_
    intro w228 hS229
    refine wl_h hS229.toHeld (r_assign (v := .int .i64 _) rfl) <| wl_nil <| c_ret <| ret_many rfl (.cell (v := .agg #[.slice _ _ _, .int .i64 _, .int .i64 _]) rfl (ty61.run_loadVar (cs := [.slice _ _ _, .int .i64 _, .int .i64 _]) (box_at (hS229.toHeld.own (.there .here))) rfl) (.tmp (v := .int .i64 _) rfl .nil)) ?_
    obtain rfl := some_eq hM
    have hS230 := hS229.weaken (.cons _ (.cons _ (.refl _)))
    exact ⟨m59, none, 0, 0, rfl, le226, RSl.nil, hS230⟩
   ·replace hM := bif_f h227 hM
    refine c_skip <| c_seq <| c_region <| wl_h hS219.toHeld (r_box ty61 (k := 0) .here rfl rfl rfl (v := .agg #[.slice _ _ _, .int .i64 _, .int .i64 _]) rfl) <| wl_store_box ty61 hS219 rfl (v := .agg #[.slice _ _ _, .int .i64 _, .int .i64 _]) rfl (vs := [.slice _ _ _, .int .i64 _, .int .i64 _]) rfl rfl rfl (.there .here) (cs' := [.slice _ _ _, .int .i64 _, .int .i64 _]) rfl rfl ?_
    intro w231 hS232
    refine wl_h hS232.toHeld (r_assign (v := .int .i64 _) rfl) <| wl_nil <| c_ret <| ret_many rfl (.cell (v := .agg #[.slice _ _ _, .int .i64 _, .int .i64 _]) rfl (ty61.run_loadVar (cs := [.slice _ _ _, .int .i64 _, .int .i64 _]) (box_at (hS232.toHeld.own (.there .here))) rfl) (.tmp (v := .int .i64 _) rfl .nil)) ?_
    obtain rfl := some_eq hM
    have hS233 := hS232.weaken (.cons _ (.cons _ (.refl _)))
    exact ⟨m59, a78, r57.1.stops.length, c80, rfl, le226, hr81, hS233⟩

theorem cg115_all (fuel : Nat) : ∀ {m : Mem} {L : List Atom} {w : World} {a1 : Option Addr} {n2 c3 : Nat} {begin5 : List Int} {set6 : Int} (hS : St w m L) (hr4 : RSl 1 RInt m a1 n2 c3 begin5) {r : (List (List Int))} (hM : mg115 fuel begin5 set6 = some r), Calls P0 115 [.slice a1 n2 c3, .int .i64 set6].toArray w (Ret fun v w' => ∃ (m' : Mem) (a0 : Option Addr) (n0 : Nat) (c0 : Nat) (cs0 : List Value), v = .slice a0 n0 c0 ∧ m ≤ m' ∧ n0 = r.length ∧ RCs 1 (RS 1 RInt) m' cs0 r ∧ St w' m' (.row (.slice a0 n0 c0) 26 1 cs0 :: L)) := by
 induction fuel with
 | zero => intros; rename_i hM; exact none_ne hM
 | succ fuel ih =>
 intro m L w a1 n2 c3 begin5 set6 hS hr4 r hM
 rw [mg115] at hM
 obtain rfl := hr4.1
 refine enter Tryz.func115 rfl Tryz.ntmps115 (Nat.le_of_ble_eq_true rfl) ?_
 refine c_seq <| c_region <| wl_h hS.toHeld (r_assign (v := .slice _ _ _) rfl) <| wl_nil <| c_seq <| c_seq <| c_region <| wl_h hS.toHeld (r_move (v := .int .i64 _) rfl) ?_
 refine wl_h hS.toHeld (r_eql (a := _) (b := _) rfl rfl) <| wl_nil <| c_cond (c := _) rfl (fun h7 => ?_) (fun h7 => ?_)
 ·replace hM := bif_t h7 hM
  refine c_seq <| c_region <| wl_h hS.toHeld (r_move (v := .slice _ _ _) rfl) <| wl_buildSlice Tryz.underlying23 ty26 rfl (by decide) (by decide) hS (ps := [(0, [.slice _ _ _])]) rfl rfl (cs := [.slice _ _ _]) rfl rfl (by decide) ?_
  intro b9 w10 hS11
  have hrc12 : RCs 1 (RS 1 RInt) m [.slice a1 begin5.length c3] ([begin5] : List (List Int)) := (RCs.cons (d := [.slice a1 begin5.length c3]) rfl ⟨_, _, _, rfl, hr4⟩ RCs.nil)
  refine wl_h hS11.toHeld (r_assign (v := .slice _ _ _) rfl) <| wl_nil <| c_ret <| ret_tmp (t := 4) rfl (v := .slice _ _ _) rfl ?_
  obtain rfl := some_eq hM
  exact ⟨m, (some ⟨b9, 0, none⟩), 1, 1, [.slice a1 begin5.length c3], rfl, Mem.le_refl _, row_n (hS11.toHeld.own .here) hrc12 (by decide), hrc12, hS11⟩
 ·replace hM := bif_f h7 hM
  refine c_skip <| c_seq <| c_region <| wl_h hS.toHeld (r_assign (v := .slice _ _ _) rfl) <| wl_nil <| c_seq <| c_seq <| c_region <| wl_h hS.toHeld (r_assign (v := .int .i64 _) rfl) ?_
  refine wl_nil <| c_block ?_
  have hS623 := hS.nilRow 26 1
  have hrc624 : RCs 1 (RS 1 RInt) m [] ([] : List (List Int)) := RCs.nil
  refine c_loop (fun k f w => ∃ (s628 : Int) (l629 : List (List Int)) (m625 : Mem) (a630 : Option Addr) (n631 : Nat) (c632 : Nat) (cs633 : List Value), mg115_l0 fuel (mg115 fuel) begin5 set6 k s628 l629 = some r ∧ m ≤ m625 ∧ n631 = l629.length ∧ RCs 1 (RS 1 RInt) m625 cs633 l629 ∧ St w m625 (.row (.slice a630 n631 c632) 26 1 cs633 :: L) ∧ f 0 = .slice a1 begin5.length c3 ∧ f 1 = .int .i64 set6 ∧ f 5 = .slice a630 n631 c632 ∧ f 6 = .int .i64 s628) fuel ⟨0, ([] : List (List Int)), m, none, 0, 0, [], hM, Mem.le_refl _, row_n (hS623.toHeld.own .here) hrc624 (by decide), hrc624, hS623, rfl, rfl, rfl, rfl⟩ ?_
  rintro k_0 f636 w637 ⟨s628, l629, m625, a630, n631, c632, cs633, hM, hm626, hn634, hrc635, hS639, e640, e641, e642, e643⟩
  replace hr4 := RSl.mono RInt.mono hr4 hm626
  replace hrc624 := RCs.mono (RS.mono RInt.mono) hrc624 hm626
  have le627 := hm626
  subst hn634
  refine c_know (t := 0) e640 <| c_know (t := 1) e641 <| c_know (t := 5) e642 <| c_know (t := 6) e643 ?_
  clear e640 e641 e642 e643
  rcases k_0 with _ | k_0
  · exact none_ne hM
  rw [mg115_l0] at hM
  refine c_seq <| c_seq <| c_region <| wl_h hS639.toHeld (r_move (v := .int .i64 _) rfl) <| wl_h hS639.toHeld (r_lss (a := _) (b := _) rfl rfl) ?_
  refine wl_nil <| c_cond (c := _) rfl (fun h644 => ?_) (fun h644 => ?_)
  ·replace hM := bif_t h644 hM
   refine c_skip <| c_seq <| c_block <| c_seq <| c_region <| wl_h hS639.toHeld (r_move (v := .int .i64 _) rfl) ?_
   refine wl_h hS639.toHeld (r_move (v := .int .i64 _) rfl) ?_
   obtain ⟨hc645, hM⟩ := chk_ok hM
   refine wl_h hS639.toHeld (r_shr (a := _) (b := _) rfl rfl hc645) <| wl_h hS639.toHeld (r_and (a := _) (b := _) rfl rfl) <| wl_h hS639.toHeld (r_eql (a := _) (b := _) rfl rfl) <| wl_nil <| c_cond (c := _) rfl (fun h646 => ?_) (fun h646 => ?_)
   ·replace hM := bif_t h646 hM
    obtain ⟨hc649, hM⟩ := chk_ok hM
    obtain ⟨hc650, hM⟩ := chk_ok hM
    obtain ⟨r651, hq652, hM⟩ := bnd_ok hM
    obtain ⟨hc669, hM⟩ := chk_ok hM
    obtain ⟨r686, hq687, hM⟩ := bnd_ok hM
    obtain ⟨hc701, hM⟩ := chk_ok hM
    have hH718 := (hS639.weaken (.cons _ (.refl _))).toHeld
    refine c_drawJ (k := 13) (fun f w => ∃ (m688 : Mem) (a712 : Option Addr) (n713 : Nat) (c714 : Nat) (cs715 : List Value), m625 ≤ m688 ∧ n713 = ((l629 ++ r686)).length ∧ RCs 1 (RS 1 RInt) m688 cs715 (l629 ++ r686) ∧ St w m688 (.row (.slice a712 n713 c714) 26 1 cs715 :: L) ∧ f 0 = .slice a1 begin5.length c3 ∧ f 1 = .int .i64 set6 ∧ f 5 = .slice a712 n713 c714 ∧ f 6 = .int .i64 s628) (fun w => Held w m625 (L)) mixed rfl ?_ ?_
    ·replace hH718 := hH718.drew1
     have hS719 := hS639.drew1
     refine d_v (i := 0) rfl (by kernel_rfl) rfl (r_move (v := .slice _ _ _) rfl) hH718 ?_
     refine d_v (i := 1) rfl (by kernel_rfl) rfl (r_move (v := .slice _ _ _) rfl) hH718 ?_
     refine d_v (i := 3) rfl (by kernel_rfl) rfl (r_move (v := .int .i64 _) rfl) hH718 ?_
     refine d_v (i := 6) rfl (by kernel_rfl) rfl (r_move (v := .int .i64 _) rfl) hH718 ?_
     refine d_v (i := 7) rfl (by kernel_rfl) rfl (r_move (v := .int .i64 _) rfl) hH718 ?_
     refine d_v (i := 8) rfl (by kernel_rfl) rfl (r_shl (a := _) (b := _) rfl rfl hc649) hH718 ?_
     refine d_v (i := 9) rfl (by kernel_rfl) rfl (r_sub (a := _) (b := _) rfl rfl (ok_lo hc650) (ok_hi hc650)) hH718 ?_
     refine d_all (rs := [2, 4]) (by kernel_rfl) (by simp) (fun j hj o ho => ?_)
     simp only [List.mem_cons, List.not_mem_nil, or_false] at hj
     rcases hj with rfl | rfl
     ·cases ho
      refine wl_call ent71 (vals := [.slice _ _ _]) rfl (cg71 hS719 hr4 hq652) ?_
      rintro _ w727 ⟨a721, n722, c723, cs724, rfl, rfl, hrc725, hS728⟩
      refine wl_nil ?_
      have hH729 := hS728.toHeld.mono (Mem.le_refl _) (List.Sublist.subset (.cons _ (.cons _ (.refl _))))
      refine ⟨hH729, ?_⟩
      refine d_all (rs := [4]) (by kernel_rfl) (by simp) (fun j hj o ho => ?_)
      obtain rfl : j = 4 := by simpa using hj
      cases ho
      refine wl_buildSlice Tryz.underlying26 ty3 rfl (by decide) (by decide) hS728 (ps := [(0, [.int .i64 _])]) rfl rfl (cs := [.int .i64 _]) rfl rfl (by decide) ?_
      intro b731 w732 hS733
      have hrc734 : RCs 1 RInt m625 [.int .i64 s628] ([s628] : List Int) := (RCs.cons (d := [.int .i64 s628]) rfl rfl RCs.nil)
      refine wl_nil ?_
      have hH735 := hS733.toHeld.mono (Mem.le_refl _) (List.Sublist.subset (.cons _ (.cons _ (.cons _ (.refl _)))))
      refine ⟨hH735, ?_⟩
      refine d_all (rs := [5]) (by kernel_rfl) (by simp) (fun j hj o ho => ?_)
      obtain rfl : j = 5 := by simpa using hj
      cases ho
      refine wl_append_src Tryz.underlying26 ty3 rfl (by decide) hS733 (a := _) (nn := _) (c := _) rfl (a2 := _) (k2 := _) (c2 := _) rfl (.there .here) (row_src (hS733.toHeld.own .here) (RCs.allOne RInt.one (by decide) hrc734)) (lim_b hc669 rfl) (lim_a hc669) ?_
      intro a736 c737 w738 hS739
      have hrc741 := RCs.append hrc725 hrc734
      generalize cs724 ++ [.int .i64 s628] = cs742 at hS739 hrc741
      have hS743 := hS739.weaken (.cons_cons _ (.cons _ (.cons_cons _ (.refl _))))
      refine wl_nil ?_
      have hH744 := hS743.toHeld.mono (Mem.le_refl _) (List.Sublist.subset (.cons _ (.cons _ (.refl _))))
      refine ⟨hH744, ?_⟩
      refine d_all (rs := [10]) (by kernel_rfl) (by simp) (fun j hj o ho => ?_)
      obtain rfl : j = 10 := by simpa using hj
      cases ho
      obtain ⟨m745, hm746, hS747, hr748⟩ := hS743.freezeR .here hrc741 RInt.mono (by decide)
      have le750 := Mem.le_trans le627 hm746
      have le751 := hm746
      replace hr4 := RSl.mono RInt.mono hr4 hm746
      replace hrc624 := RCs.mono (RS.mono RInt.mono) hrc624 hm746
      replace hrc635 := RCs.mono (RS.mono RInt.mono) hrc635 hm746
      replace hrc725 := RCs.mono RInt.mono hrc725 hm746
      replace hrc734 := RCs.mono RInt.mono hrc734 hm746
      replace hrc741 := RCs.mono RInt.mono hrc741 hm746
      refine wl_call ent115 (vals := [.slice _ _ _, .int .i64 _]) rfl (ih hS747 hr748 hq687) ?_
      rintro _ w760 ⟨m752, a754, n755, c756, cs757, rfl, hm753, rfl, hrc758, hS761⟩
      have le762 := Mem.le_trans le750 hm753
      have le763 := Mem.le_trans le751 hm753
      replace hr4 := RSl.mono RInt.mono hr4 hm753
      replace hrc624 := RCs.mono (RS.mono RInt.mono) hrc624 hm753
      replace hrc635 := RCs.mono (RS.mono RInt.mono) hrc635 hm753
      replace hrc725 := RCs.mono RInt.mono hrc725 hm753
      replace hrc734 := RCs.mono RInt.mono hrc734 hm753
      replace hrc741 := RCs.mono RInt.mono hrc741 hm753
      replace hr748 := RSl.mono RInt.mono hr748 hm753
      refine wl_nil ?_
      have hH764 := hS761.toHeld.mono le763 (List.Sublist.subset (.cons _ (.cons _ (.refl _))))
      refine ⟨hH764, ?_⟩
      refine d_all (rs := [11]) (by kernel_rfl) (by simp) (fun j hj o ho => ?_)
      obtain rfl : j = 11 := by simpa using hj
      cases ho
      refine wl_append_src Tryz.underlying23 ty26 rfl (by decide) hS761 (a := _) (nn := _) (c := _) rfl (a2 := _) (k2 := _) (c2 := _) rfl (.there .here) (row_src (hS761.toHeld.own .here) (RCs.allOne RS.one (by decide) hrc758)) (lim_b hc701 rfl) (lim_a hc701) ?_
      intro a765 c766 w767 hS768
      have hrc770 := RCs.append hrc635 hrc758
      generalize cs633 ++ cs757 = cs771 at hS768 hrc770
      refine wl_nil ?_
      have hH772 := hS768.toHeld.mono le763 (List.Sublist.subset (.cons _ (.cons _ (.refl _))))
      refine ⟨hH772, ?_⟩
      refine d_v (i := 12) rfl (by kernel_rfl) rfl (r_assign (v := .slice _ _ _) rfl) hH772 ?_
      refine d_end (by kernel_rfl) ?_
      have hS773 := hS768.weaken (.cons_cons _ (.cons _ (.refl _)))
      exact ⟨_, _, _, _, _, le763, row_n (hS773.toHeld.own .here) hrc770 (by decide), hrc770, hS773, rfl, rfl, rfl, rfl⟩
     ·cases ho
      refine wl_buildSlice Tryz.underlying26 ty3 rfl (by decide) (by decide) hS719 (ps := [(0, [.int .i64 _])]) rfl rfl (cs := [.int .i64 _]) rfl rfl (by decide) ?_
      intro b775 w776 hS777
      have hrc778 : RCs 1 RInt m625 [.int .i64 s628] ([s628] : List Int) := (RCs.cons (d := [.int .i64 s628]) rfl rfl RCs.nil)
      refine wl_nil ?_
      have hH779 := hS777.toHeld.mono (Mem.le_refl _) (List.Sublist.subset (.cons _ (.cons _ (.refl _))))
      refine ⟨hH779, ?_⟩
      refine d_all (rs := [2]) (by kernel_rfl) (by simp) (fun j hj o ho => ?_)
      obtain rfl : j = 2 := by simpa using hj
      cases ho
      refine wl_call ent71 (vals := [.slice _ _ _]) rfl (cg71 hS777 hr4 hq652) ?_
      rintro _ w787 ⟨a781, n782, c783, cs784, rfl, rfl, hrc785, hS788⟩
      refine wl_nil ?_
      have hH789 := hS788.toHeld.mono (Mem.le_refl _) (List.Sublist.subset (.cons _ (.cons _ (.cons _ (.refl _)))))
      refine ⟨hH789, ?_⟩
      refine d_all (rs := [5]) (by kernel_rfl) (by simp) (fun j hj o ho => ?_)
      obtain rfl : j = 5 := by simpa using hj
      cases ho
      refine wl_append_src Tryz.underlying26 ty3 rfl (by decide) hS788 (a := _) (nn := _) (c := _) rfl (a2 := _) (k2 := _) (c2 := _) rfl .here (row_src (hS788.toHeld.own (.there .here)) (RCs.allOne RInt.one (by decide) hrc778)) (lim_b hc669 rfl) (lim_a hc669) ?_
      intro a790 c791 w792 hS793
      have hrc795 := RCs.append hrc785 hrc778
      generalize cs784 ++ [.int .i64 s628] = cs796 at hS793 hrc795
      have hS797 := hS793.weaken (.cons_cons _ (.cons _ (.cons_cons _ (.refl _))))
      refine wl_nil ?_
      have hH798 := hS797.toHeld.mono (Mem.le_refl _) (List.Sublist.subset (.cons _ (.cons _ (.refl _))))
      refine ⟨hH798, ?_⟩
      refine d_all (rs := [10]) (by kernel_rfl) (by simp) (fun j hj o ho => ?_)
      obtain rfl : j = 10 := by simpa using hj
      cases ho
      obtain ⟨m799, hm800, hS801, hr802⟩ := hS797.freezeR .here hrc795 RInt.mono (by decide)
      have le804 := Mem.le_trans le627 hm800
      have le805 := hm800
      replace hr4 := RSl.mono RInt.mono hr4 hm800
      replace hrc624 := RCs.mono (RS.mono RInt.mono) hrc624 hm800
      replace hrc635 := RCs.mono (RS.mono RInt.mono) hrc635 hm800
      replace hrc778 := RCs.mono RInt.mono hrc778 hm800
      replace hrc785 := RCs.mono RInt.mono hrc785 hm800
      replace hrc795 := RCs.mono RInt.mono hrc795 hm800
      refine wl_call ent115 (vals := [.slice _ _ _, .int .i64 _]) rfl (ih hS801 hr802 hq687) ?_
      rintro _ w814 ⟨m806, a808, n809, c810, cs811, rfl, hm807, rfl, hrc812, hS815⟩
      have le816 := Mem.le_trans le804 hm807
      have le817 := Mem.le_trans le805 hm807
      replace hr4 := RSl.mono RInt.mono hr4 hm807
      replace hrc624 := RCs.mono (RS.mono RInt.mono) hrc624 hm807
      replace hrc635 := RCs.mono (RS.mono RInt.mono) hrc635 hm807
      replace hrc778 := RCs.mono RInt.mono hrc778 hm807
      replace hrc785 := RCs.mono RInt.mono hrc785 hm807
      replace hrc795 := RCs.mono RInt.mono hrc795 hm807
      replace hr802 := RSl.mono RInt.mono hr802 hm807
      refine wl_nil ?_
      have hH818 := hS815.toHeld.mono le817 (List.Sublist.subset (.cons _ (.cons _ (.refl _))))
      refine ⟨hH818, ?_⟩
      refine d_all (rs := [11]) (by kernel_rfl) (by simp) (fun j hj o ho => ?_)
      obtain rfl : j = 11 := by simpa using hj
      cases ho
      refine wl_append_src Tryz.underlying23 ty26 rfl (by decide) hS815 (a := _) (nn := _) (c := _) rfl (a2 := _) (k2 := _) (c2 := _) rfl (.there .here) (row_src (hS815.toHeld.own .here) (RCs.allOne RS.one (by decide) hrc812)) (lim_b hc701 rfl) (lim_a hc701) ?_
      intro a819 c820 w821 hS822
      have hrc824 := RCs.append hrc635 hrc812
      generalize cs633 ++ cs811 = cs825 at hS822 hrc824
      refine wl_nil ?_
      have hH826 := hS822.toHeld.mono le817 (List.Sublist.subset (.cons _ (.cons _ (.refl _))))
      refine ⟨hH826, ?_⟩
      refine d_v (i := 12) rfl (by kernel_rfl) rfl (r_assign (v := .slice _ _ _) rfl) hH826 ?_
      refine d_end (by kernel_rfl) ?_
      have hS827 := hS822.weaken (.cons_cons _ (.cons _ (.refl _)))
      exact ⟨_, _, _, _, _, le817, row_n (hS827.toHeld.own .here) hrc824 (by decide), hrc824, hS827, rfl, rfl, rfl, rfl⟩
    ·rintro f833 w834 ⟨m688, a712, n713, c714, cs715, hm711, hn716, hrc717, hS828, e829, e830, e831, e832⟩
     have le835 := Mem.le_trans le627 hm711
     have le836 := hm711
     replace hr4 := RSl.mono RInt.mono hr4 hm711
     replace hrc624 := RCs.mono (RS.mono RInt.mono) hrc624 hm711
     replace hrc635 := RCs.mono (RS.mono RInt.mono) hrc635 hm711
     subst hn716
     refine c_know (t := 0) e829 <| c_know (t := 1) e830 <| c_know (t := 5) e831 <| c_know (t := 6) e832 ?_
     clear e829 e830 e831 e832
     refine c_nil <| q_norm <| c_region <| wl_h hS828.toHeld (r_move (v := .int .i64 _) rfl) ?_
     obtain ⟨hc837, hM⟩ := chk_ok hM
     refine wl_h hS828.toHeld (r_add (a := _) (b := _) rfl rfl (ok_lo hc837) (ok_hi hc837)) <| wl_h hS828.toHeld (r_assign (v := .int .i64 _) rfl) <| wl_nil <| c_nil <| q_loop ?_
     exact ⟨k_0, Nat.lt_succ_self _, s628 + 1, (l629 ++ r686), m688, a712, ((l629 ++ r686)).length, c714, cs715, hM, le835, row_n (hS828.toHeld.own .here) hrc717 (by decide), hrc717, hS828, rfl, rfl, rfl, rfl⟩
   ·replace hM := bif_f h646 hM
    refine c_skip <| c_nil <| q_norm <| c_region <| wl_h hS639.toHeld (r_move (v := .int .i64 _) rfl) ?_
    obtain ⟨hc838, hM⟩ := chk_ok hM
    refine wl_h hS639.toHeld (r_add (a := _) (b := _) rfl rfl (ok_lo hc838) (ok_hi hc838)) <| wl_h hS639.toHeld (r_assign (v := .int .i64 _) rfl) <| wl_nil <| c_nil <| q_loop ?_
    exact ⟨k_0, Nat.lt_succ_self _, s628 + 1, l629, m625, a630, l629.length, c632, cs633, hM, le627, row_n (hS639.toHeld.own .here) hrc635 (by decide), hrc635, hS639, rfl, rfl, rfl, rfl⟩
  ·replace hM := bif_f h644 hM
   refine c_exit <| q_loopx <| q_hit <| c_seq <| c_region <| wl_h hS639.toHeld (r_move (v := .slice _ _ _) rfl) ?_
   refine wl_h hS639.toHeld (r_assign (v := .slice _ _ _) rfl) <| wl_nil <| c_ret <| ret_tmp (t := 4) rfl (v := .slice _ _ _) rfl ?_
   obtain rfl := some_eq hM
   exact ⟨m625, a630, l629.length, c632, cs633, rfl, le627, row_n (hS639.toHeld.own .here) hrc635 (by decide), hrc635, hS639⟩
theorem cg115 {m : Mem} {L : List Atom} {w : World} {a1 : Option Addr} {n2 c3 : Nat} {begin5 : List Int} {set6 : Int} (hS : St w m L) (hr4 : RSl 1 RInt m a1 n2 c3 begin5) {fuel : Nat} {r : (List (List Int))} (hM : mg115 fuel begin5 set6 = some r) : Calls P0 115 [.slice a1 n2 c3, .int .i64 set6].toArray w (Ret fun v w' => ∃ (m' : Mem) (a0 : Option Addr) (n0 : Nat) (c0 : Nat) (cs0 : List Value), v = .slice a0 n0 c0 ∧ m ≤ m' ∧ n0 = r.length ∧ RCs 1 (RS 1 RInt) m' cs0 r ∧ St w' m' (.row (.slice a0 n0 c0) 26 1 cs0 :: L)) := by
 exact cg115_all fuel hS hr4 hM

theorem cg75 {m : Mem} {L : List Atom} {w : World} {cs1 : List Value} {f3 : Fleet} {set13 : Int} (hS : St w m L) (hx2 : RFleet m cs1 f3) {fuel : Nat} {r : Tour × Bool} (hM : mg75 fuel f3 set13 = some r) : Calls P0 75 [.agg cs1.toArray, .int .i64 set13].toArray w (Ret fun v w' => ∃ (m' : Mem) (a0 : Option Addr) (n0 : Nat) (c0 : Nat), v = .tuple #[.agg #[.slice a0 n0 c0, .int .i64 r.1.leave, .int .i64 r.1.fin], .bool r.2] ∧ m ≤ m' ∧ RSl 1 RInt m' a0 n0 c0 r.1.stops ∧ St w' m' (L)) := by
 rw [mg75] at hM
 have hk12 := hx2
 obtain ⟨a4, n5, c6, a8, n9, c10, rfl, hr7, hr11⟩ := hx2
 obtain rfl := hr7.1
 obtain rfl := hr11.1
 refine enter Tryz.func75 rfl Tryz.ntmps75 (Nat.le_of_ble_eq_true rfl) ?_
 refine c_seq <| c_region <| wl_box hS (v := .agg #[.slice _ _ _, .slice _ _ _, .int .i64 _, .int .i64 _, .int .i64 _]) rfl (cs := [.slice _ _ _, .slice _ _ _, .int .i64 _, .int .i64 _, .int .i64 _]) rfl ?_
 intro b14 w15 hS16
 refine wl_alloc ty64 rfl hS16 ?_
 intro b17 w18 hS19
 refine wl_h hS19.toHeld (r_assign (v := .bool _) rfl) <| wl_nil <| c_seq <| c_region <| wl_h hS19.toHeld (r_move (v := .int .i64 _) rfl) ?_
 obtain ⟨r20, hq21, hM⟩ := bnd_ok hM
 refine wl_call ent115 (vals := [.slice _ _ _, .int .i64 _]) rfl (cg115 hS19 RSl.nil hq21) ?_
 rintro _ w30 ⟨m22, a24, n25, c26, cs27, rfl, hm23, rfl, hrc28, hS31⟩
 have le32 := hm23
 replace hk12 := RFleet.mono _ _ _ _ hk12 hm23
 replace hr7 := RSl.mono RStop.mono hr7 hm23
 replace hr11 := RSl.mono (RS.mono RInt.mono) hr11 hm23
 refine wl_h hS31.toHeld (r_assign (v := .slice _ _ _) rfl) <| wl_nil <| c_seq <| c_seq ?_
 have hH74 := (hS31.weaken (.cons _ (.cons_cons _ (.cons_cons _ (.refl _))))).toHeld
 refine c_draw (k := 8) (fun w => Held w m22 (.box b17 64 [.slice none 0 0, .int .i64 0, .int .i64 0] :: .box b14 53 [.slice a4 f3.stops.length c6, .slice a8 f3.minutes.length c10, .int .i64 f3.cap, .int .i64 f3.start, .int .i64 f3.back] :: L)) mixed rfl ?_
 replace hH74 := hH74.drew1
 have hS75 := hS31.drew1
 refine d_v (i := 0) rfl (by kernel_rfl) rfl (r_box ty53 (k := 0) (.there .here) rfl rfl rfl (v := .agg #[.slice _ _ _, .slice _ _ _, .int .i64 _, .int .i64 _, .int .i64 _]) rfl) hH74 ?_
 refine d_v (i := 1) rfl (by kernel_rfl) rfl (r_move (v := .slice _ _ _) rfl) hH74 ?_
 obtain ⟨x76, hx77, h78, h79, hM⟩ := getK_ok hM
 obtain ⟨b80, rfl⟩ := row_some (hS75.toHeld.own .here) hrc28 (by decide) h78 h79
 obtain ⟨es81, hes82, hR83⟩ := row_read hrc28 hx77
 obtain ⟨a84, n85, c86, rfl, hr87⟩ := hR83
 obtain rfl := hr87.1
 refine d_v (i := 2) rfl (by kernel_rfl) rfl (r_indexAddr Tryz.underlying23 ty26 (b := _) (o := _) (n := _) (c := _) (i := 0) rfl rfl h78 (row_lt (hS75.toHeld.own .here) hrc28 (by decide) h79)) hH74 ?_
 refine d_v (i := 5) rfl (by kernel_rfl) rfl (r_fieldAddr fld53_2 (b := _) (o := _) rfl) hH74 ?_
 refine d_v (i := 6) rfl (by kernel_rfl) rfl (r_box ty3 (k := 2) (.there .here) rfl rfl rfl (v := .int .i64 _) rfl) hH74 ?_
 refine d_all (rs := [3]) (by kernel_rfl) (by simp) (fun j hj o ho => ?_)
 obtain rfl : j = 3 := by simpa using hj
 cases ho
 refine wl_h hS75.toHeld (r_row ty26 (k := 0) (i := (0 : Int).toNat) .here rfl rfl (row_room hrc28 hx77) hes82 rfl (v := .slice _ _ _) rfl) <| wl_nil ?_
 have hH88 := hS75.toHeld.mono (Mem.le_refl _) (List.Sublist.subset (.cons _ (.cons_cons _ (.cons_cons _ (.refl _)))))
 refine ⟨hH88, ?_⟩
 refine d_all (rs := [4]) (by kernel_rfl) (by simp) (fun j hj o ho => ?_)
 obtain rfl : j = 4 := by simpa using hj
 cases ho
 obtain ⟨r89, hq90, hM⟩ := bnd_ok hM
 refine wl_call ent109 (vals := [.agg #[.slice _ _ _, .slice _ _ _, .int .i64 _, .int .i64 _, .int .i64 _], .slice _ _ _]) rfl (cg109 hS75 hk12 hr87 hq90) ?_
 rintro _ w92 ⟨rfl, hS93⟩
 refine wl_nil ?_
 have hH94 := hS93.toHeld.mono (Mem.le_refl _) (List.Sublist.subset (.cons _ (.cons_cons _ (.cons_cons _ (.refl _)))))
 refine ⟨hH94, ?_⟩
 refine d_v (i := 7) rfl (by kernel_rfl) rfl (r_gtr (a := _) (b := _) rfl rfl) hH94 ?_
 refine d_end (by kernel_rfl) ?_
 refine c_cond (c := _) rfl (fun h95 => ?_) (fun h95 => ?_)
 ·replace hM := bif_t h95 hM
  refine c_seq <| c_region <| wl_h hS93.toHeld (r_build ty64 st64 (ps := []) rfl rfl (cs := [.slice _ _ _, .int .i64 _, .int .i64 _]) rfl) <| wl_store_box ty64 hS93 rfl (v := .agg #[.slice _ _ _, .int .i64 _, .int .i64 _]) rfl (vs := [.slice _ _ _, .int .i64 _, .int .i64 _]) rfl rfl rfl (.there .here) (cs' := [.slice _ _ _, .int .i64 _, .int .i64 _]) rfl rfl ?_
  intro w96 hS97
  refine wl_h hS97.toHeld (r_assign (v := .bool _) rfl) <| wl_nil <| c_ret <| ret_many rfl (.cell (v := .agg #[.slice _ _ _, .int .i64 _, .int .i64 _]) rfl (ty64.run_loadVar (cs := [.slice _ _ _, .int .i64 _, .int .i64 _]) (box_at (hS97.toHeld.own (.there .here))) rfl) (.tmp (v := .bool _) rfl .nil)) ?_
  obtain rfl := some_eq hM
  have hS98 := hS97.weaken (.cons _ (.cons _ (.cons _ (.refl _))))
  exact ⟨m22, none, 0, 0, rfl, le32, RSl.nil, hS98⟩
 ·replace hM := bif_f h95 hM
  refine c_skip <| c_seq <| c_region <| wl_h hS93.toHeld (r_build ty64 st64 (ps := []) rfl rfl (cs := [.slice _ _ _, .int .i64 _, .int .i64 _]) rfl) <| wl_alloc ty64 rfl hS93 ?_
  intro b99 w100 hS101
  refine wl_store_box ty64 hS101 rfl (v := .agg #[.slice _ _ _, .int .i64 _, .int .i64 _]) rfl (vs := [.slice _ _ _, .int .i64 _, .int .i64 _]) rfl rfl rfl .here (cs' := [.slice _ _ _, .int .i64 _, .int .i64 _]) rfl rfl ?_
  intro w102 hS103
  refine wl_nil <| c_seq <| c_region <| wl_h hS103.toHeld (r_assign (v := .bool _) rfl) <| wl_nil <| c_seq <| c_seq <| c_region <| wl_h hS103.toHeld (r_assign (v := .int .i64 _) rfl) ?_
  refine wl_nil <| c_block <| c_loop (fun k f w => ∃ (found365 : Bool) (i366 : Int) (y367 : List Int) (y372 : Int) (y373 : Int) (a368 : Option Addr) (n369 : Nat) (c370 : Nat), mg75_l0 fuel f3 r20 k found365 i366 y367 y372 y373 = some r ∧ RSl 1 RInt m22 a368 n369 c370 y367 ∧ St w m22 (.box b99 64 [.slice a368 n369 c370, .int .i64 y372, .int .i64 y373] :: .row (.slice (some ⟨b80, 0, none⟩) r20.length c26) 26 1 cs27 :: .box b17 64 [.slice none 0 0, .int .i64 0, .int .i64 0] :: .box b14 53 [.slice a4 f3.stops.length c6, .slice a8 f3.minutes.length c10, .int .i64 f3.cap, .int .i64 f3.start, .int .i64 f3.back] :: L) ∧ f 2 = .pointer (some ⟨b14, 0, none⟩) ∧ f 4 = .pointer (some ⟨b17, 0, none⟩) ∧ f 6 = .slice (some ⟨b80, 0, none⟩) r20.length c26 ∧ f 7 = .pointer (some ⟨b99, 0, none⟩) ∧ f 8 = .bool found365 ∧ f 9 = .int .i64 i366) fuel ⟨false, 0, [], 0, 0, none, 0, 0, hM, RSl.nil, hS103, rfl, rfl, rfl, rfl, rfl, rfl⟩ ?_
  rintro k_0 f374 w375 ⟨found365, i366, y367, y372, y373, a368, n369, c370, hM, hr371, hS377, e378, e379, e380, e381, e382, e383⟩
  obtain rfl := hr371.1
  refine c_know (t := 2) e378 <| c_know (t := 4) e379 <| c_know (t := 6) e380 <| c_know (t := 7) e381 <| c_know (t := 8) e382 ?_
  refine c_know (t := 9) e383 ?_
  clear e378 e379 e380 e381 e382 e383
  rcases k_0 with _ | k_0
  · exact none_ne hM
  rw [mg75_l0] at hM
  refine c_seq <| c_seq <| c_region <| wl_h hS377.toHeld (r_move (v := .int .i64 _) rfl) <| wl_h hS377.toHeld (r_move (v := .slice _ _ _) rfl) ?_
  refine wl_h hS377.toHeld (r_len Tryz.underlying23 (a := _) (n := _) (c := _) rfl) <| wl_h hS377.toHeld (r_lss (a := _) (b := _) rfl rfl) <| wl_nil <| c_cond (c := _) rfl (fun h384 => ?_) (fun h384 => ?_)
  ·replace hM := bif_t h384 hM
   refine c_skip <| c_seq <| c_block <| c_seq ?_
   have hH404 := (hS377.weaken (.cons_cons _ (.cons_cons _ (.cons_cons _ (.cons_cons _ (.refl _)))))).toHeld
   refine c_draw (k := 7) (fun w => Held w m22 (.box b99 64 [.slice a368 y367.length c370, .int .i64 y372, .int .i64 y373] :: .row (.slice (some ⟨b80, 0, none⟩) r20.length c26) 26 1 cs27 :: .box b17 64 [.slice none 0 0, .int .i64 0, .int .i64 0] :: .box b14 53 [.slice a4 f3.stops.length c6, .slice a8 f3.minutes.length c10, .int .i64 f3.cap, .int .i64 f3.start, .int .i64 f3.back] :: L)) mixed rfl ?_
   replace hH404 := hH404.drew1
   have hS405 := hS377.drew1
   refine d_v (i := 0) rfl (by kernel_rfl) rfl (r_box ty53 (k := 0) (.there (.there (.there .here))) rfl rfl rfl (v := .agg #[.slice _ _ _, .slice _ _ _, .int .i64 _, .int .i64 _, .int .i64 _]) rfl) hH404 ?_
   refine d_v (i := 1) rfl (by kernel_rfl) rfl (r_move (v := .slice _ _ _) rfl) hH404 ?_
   refine d_v (i := 2) rfl (by kernel_rfl) rfl (r_move (v := .int .i64 _) rfl) hH404 ?_
   obtain ⟨x406, hx407, h408, h409, hM⟩ := getK_ok hM
   obtain ⟨es410, hes411, hR412⟩ := row_read hrc28 hx407
   obtain ⟨a413, n414, c415, rfl, hr416⟩ := hR412
   obtain rfl := hr416.1
   refine d_v (i := 3) rfl (by kernel_rfl) rfl (r_indexAddr Tryz.underlying23 ty26 (b := _) (o := _) (n := _) (c := _) (i := i366) rfl rfl h408 (row_lt (hS405.toHeld.own (.there .here)) hrc28 (by decide) h409)) hH404 ?_
   refine d_v (i := 4) rfl (by kernel_rfl) rfl (r_row ty26 (k := 0) (i := i366.toNat) (.there .here) rfl rfl (row_room hrc28 hx407) hes411 rfl (v := .slice _ _ _) rfl) hH404 ?_
   refine d_all (rs := [5]) (by kernel_rfl) (by simp) (fun j hj o ho => ?_)
   obtain rfl : j = 5 := by simpa using hj
   cases ho
   obtain ⟨r417, hq418, hM⟩ := bnd_ok hM
   refine wl_call ent69 (vals := [.agg #[.slice _ _ _, .slice _ _ _, .int .i64 _, .int .i64 _, .int .i64 _], .slice _ _ _]) rfl (cg69 hS405 hk12 hr416 hq418) ?_
   rintro _ w420 ⟨rfl, hS421⟩
   refine wl_nil ?_
   have hH422 := hS421.toHeld.mono (Mem.le_refl _) (List.Sublist.subset (.cons_cons _ (.cons_cons _ (.cons_cons _ (.cons_cons _ (.refl _))))))
   refine ⟨hH422, ?_⟩
   refine d_v (i := 6) rfl (by kernel_rfl) rfl (r_assign (v := .int .i64 _) rfl) hH422 ?_
   refine d_end (by kernel_rfl) ?_
   refine c_seq ?_
   have hH448 := (hS421.weaken (.cons_cons _ (.cons_cons _ (.cons_cons _ (.cons_cons _ (.refl _)))))).toHeld
   refine c_draw (k := 14) (fun w => Held w m22 (.box b99 64 [.slice a368 y367.length c370, .int .i64 y372, .int .i64 y373] :: .row (.slice (some ⟨b80, 0, none⟩) r20.length c26) 26 1 cs27 :: .box b17 64 [.slice none 0 0, .int .i64 0, .int .i64 0] :: .box b14 53 [.slice a4 f3.stops.length c6, .slice a8 f3.minutes.length c10, .int .i64 f3.cap, .int .i64 f3.start, .int .i64 f3.back] :: L)) mixed rfl ?_
   replace hH448 := hH448.drew1
   have hS449 := hS421.drew1
   refine d_v (i := 0) rfl (by kernel_rfl) rfl (r_box ty53 (k := 0) (.there (.there (.there .here))) rfl rfl rfl (v := .agg #[.slice _ _ _, .slice _ _ _, .int .i64 _, .int .i64 _, .int .i64 _]) rfl) hH448 ?_
   refine d_v (i := 1) rfl (by kernel_rfl) rfl (r_move (v := .slice _ _ _) rfl) hH448 ?_
   refine d_v (i := 2) rfl (by kernel_rfl) rfl (r_move (v := .int .i64 _) rfl) hH448 ?_
   obtain ⟨x450, hx451, h452, h453, hM⟩ := getK_ok hM
   obtain ⟨es454, hes455, hR456⟩ := row_read hrc28 hx451
   obtain ⟨a457, n458, c459, rfl, hr460⟩ := hR456
   obtain rfl := hr460.1
   refine d_v (i := 3) rfl (by kernel_rfl) rfl (r_indexAddr Tryz.underlying23 ty26 (b := _) (o := _) (n := _) (c := _) (i := i366) rfl rfl h452 (row_lt (hS449.toHeld.own (.there .here)) hrc28 (by decide) h453)) hH448 ?_
   refine d_v (i := 4) rfl (by kernel_rfl) rfl (r_row ty26 (k := 0) (i := i366.toNat) (.there .here) rfl rfl (row_room hrc28 hx451) hes455 rfl (v := .slice _ _ _) rfl) hH448 ?_
   refine d_v (i := 5) rfl (by kernel_rfl) rfl (r_move (v := .int .i64 _) rfl) hH448 ?_
   refine d_all (rs := [6]) (by kernel_rfl) (by simp) (fun j hj o ho => ?_)
   obtain rfl : j = 6 := by simpa using hj
   cases ho
   obtain ⟨r461, hq462, hM⟩ := bnd_ok hM
   refine wl_call ent70 (vals := [.agg #[.slice _ _ _, .slice _ _ _, .int .i64 _, .int .i64 _, .int .i64 _], .slice _ _ _, .int .i64 _]) rfl (cg70 hS449 hk12 hr460 hq462) ?_
   rintro _ w470 ⟨a464, n465, c466, cs467, rfl, rfl, hrc468, hS471⟩
   refine wl_nil ?_
   have hH472 := hS471.toHeld.mono (Mem.le_refl _) (List.Sublist.subset (.cons _ (.cons_cons _ (.cons_cons _ (.cons_cons _ (.cons_cons _ (.refl _)))))))
   refine ⟨hH472, ?_⟩
   refine d_v (i := 7) rfl (by kernel_rfl) rfl (r_move (v := .tuple #[.slice _ _ _, .int .i64 _, .bool _]) rfl) hH472 ?_
   refine d_v (i := 8) rfl (by kernel_rfl) rfl (r_extract (vs := [.slice _ _ _, .int .i64 _, .bool _]) rfl (v := .slice _ _ _) rfl) hH472 ?_
   refine d_v (i := 9) rfl (by kernel_rfl) rfl (r_extract (vs := [.slice _ _ _, .int .i64 _, .bool _]) rfl (v := .int .i64 _) rfl) hH472 ?_
   refine d_v (i := 10) rfl (by kernel_rfl) rfl (r_extract (vs := [.slice _ _ _, .int .i64 _, .bool _]) rfl (v := .bool _) rfl) hH472 ?_
   refine d_v (i := 11) rfl (by kernel_rfl) rfl (r_assign (v := .slice _ _ _) rfl) hH472 ?_
   refine d_v (i := 12) rfl (by kernel_rfl) rfl (r_assign (v := .int .i64 _) rfl) hH472 ?_
   refine d_v (i := 13) rfl (by kernel_rfl) rfl (r_assign (v := .bool _) rfl) hH472 ?_
   refine d_end (by kernel_rfl) ?_
   refine c_seq <| c_region <| wl_h hS471.toHeld (r_move (v := .bool _) rfl) <| wl_h hS471.toHeld (r_move (v := .bool _) rfl) <| wl_split rfl (c := _) (t := 50) (fun h473 => ?_) (fun h473 => ?_)
   ·replace hM := bif_t h473 hM
    refine wl_on (t := 50) rfl rfl ?_
    refine wl_h hS471.toHeld (r_move (v := .bool _) rfl) <| wl_on (t := 50) rfl rfl ?_
    refine wl_h hS471.toHeld (r_not (b := _) rfl) <| wl_on (t := 50) rfl rfl ?_
    refine wl_h hS471.toHeld (r_move (v := .bool _) rfl) <| wl_split rfl (c := _) (t := 53) (fun h474 => ?_) (fun h474 => ?_)
    ·replace hM := bif_t h474 hM
     refine wl_off (t := 53) (b := true) rfl rfl rfl ?_
     refine wl_off (t := 53) (b := true) rfl rfl rfl ?_
     refine wl_off (t := 53) (b := true) rfl rfl rfl ?_
     refine wl_off (t := 53) (b := true) rfl rfl rfl ?_
     refine wl_on (t := 50) rfl rfl ?_
     refine wl_h hS471.toHeld (r_pick_t rfl (v := .bool _) rfl) <| wl_h hS471.toHeld (r_pick_t rfl (v := .bool _) rfl) <| wl_nil <| c_true rfl <| c_seq <| c_region <| wl_h hS471.toHeld (r_move (v := .slice _ _ _) rfl) ?_
     refine wl_h hS471.toHeld (r_move (v := .int .i64 _) rfl) ?_
     obtain ⟨x475, hx476, h477, h478, hM⟩ := getK_ok hM
     obtain ⟨es479, hes480, hR481⟩ := row_read hrc28 hx476
     obtain ⟨a482, n483, c484, rfl, hr485⟩ := hR481
     obtain rfl := hr485.1
     refine wl_h hS471.toHeld (r_indexAddr Tryz.underlying23 ty26 (b := _) (o := _) (n := _) (c := _) (i := i366) rfl rfl h477 (row_lt (hS471.toHeld.own (.there (.there .here))) hrc28 (by decide) h478)) <| wl_h hS471.toHeld (r_row ty26 (k := 0) (i := i366.toNat) (.there (.there .here)) rfl rfl (row_room hrc28 hx476) hes480 rfl (v := .slice _ _ _) rfl) <| wl_h hS471.toHeld (r_move (v := .int .i64 _) rfl) <| wl_h hS471.toHeld (r_move (v := .int .i64 _) rfl) <| wl_h hS471.toHeld (r_build ty64 st64 (ps := [(0, [.slice _ _ _]), (1, [.int .i64 _]), (2, [.int .i64 _])]) rfl rfl (cs := [.slice _ _ _, .int .i64 _, .int .i64 _]) rfl) ?_
     refine wl_store_box ty64 hS471 rfl (v := .agg #[.slice _ _ _, .int .i64 _, .int .i64 _]) rfl (vs := [.slice _ _ _, .int .i64 _, .int .i64 _]) rfl rfl rfl (.there .here) (cs' := [.slice _ _ _, .int .i64 _, .int .i64 _]) rfl rfl ?_
     intro w486 hS487
     refine wl_nil <| c_region <| wl_h hS487.toHeld (r_assign (v := .bool _) rfl) <| wl_nil <| c_nil <| q_norm <| c_region <| wl_h hS487.toHeld (r_move (v := .int .i64 _) rfl) ?_
     obtain ⟨hc488, hM⟩ := chk_ok hM
     refine wl_h hS487.toHeld (r_add (a := _) (b := _) rfl rfl (ok_lo hc488) (ok_hi hc488)) <| wl_h hS487.toHeld (r_assign (v := .int .i64 _) rfl) <| wl_nil <| c_nil <| q_loop ?_
     have hS489 := hS487.weaken (.cons _ (.cons_cons _ (.cons_cons _ (.cons_cons _ (.cons_cons _ (.refl _))))))
     exact ⟨k_0, Nat.lt_succ_self _, true, i366 + 1, x475, r417, r461.2.1, a482, x475.length, c484, hM, hr485, hS489, rfl, rfl, rfl, rfl, rfl, rfl⟩
    ·replace hM := bif_f h474 hM
     refine wl_on (t := 53) rfl rfl ?_
     refine wl_h hS471.toHeld (r_move (v := .int .i64 _) rfl) <| wl_on (t := 53) rfl rfl ?_
     refine wl_h hS471.toHeld (r_fieldAddr fld64_2 (b := _) (o := _) rfl) <| wl_on (t := 53) rfl rfl ?_
     refine wl_h hS471.toHeld (r_box ty3 (k := 2) (.there .here) rfl rfl rfl (v := .int .i64 _) rfl) <| wl_on (t := 53) rfl rfl ?_
     refine wl_h hS471.toHeld (r_lss (a := _) (b := _) rfl rfl) <| wl_on (t := 50) rfl rfl ?_
     refine wl_h hS471.toHeld (r_pick_f rfl (v := .bool _) rfl) <| wl_h hS471.toHeld (r_pick_t rfl (v := .bool _) rfl) <| wl_nil <| c_cond (c := _) rfl (fun h490 => ?_) (fun h490 => ?_)
     ·replace hM := bif_t h490 hM
      refine c_seq <| c_region <| wl_h hS471.toHeld (r_move (v := .slice _ _ _) rfl) <| wl_h hS471.toHeld (r_move (v := .int .i64 _) rfl) ?_
      obtain ⟨x491, hx492, h493, h494, hM⟩ := getK_ok hM
      obtain ⟨es495, hes496, hR497⟩ := row_read hrc28 hx492
      obtain ⟨a498, n499, c500, rfl, hr501⟩ := hR497
      obtain rfl := hr501.1
      refine wl_h hS471.toHeld (r_indexAddr Tryz.underlying23 ty26 (b := _) (o := _) (n := _) (c := _) (i := i366) rfl rfl h493 (row_lt (hS471.toHeld.own (.there (.there .here))) hrc28 (by decide) h494)) <| wl_h hS471.toHeld (r_row ty26 (k := 0) (i := i366.toNat) (.there (.there .here)) rfl rfl (row_room hrc28 hx492) hes496 rfl (v := .slice _ _ _) rfl) <| wl_h hS471.toHeld (r_move (v := .int .i64 _) rfl) <| wl_h hS471.toHeld (r_move (v := .int .i64 _) rfl) <| wl_h hS471.toHeld (r_build ty64 st64 (ps := [(0, [.slice _ _ _]), (1, [.int .i64 _]), (2, [.int .i64 _])]) rfl rfl (cs := [.slice _ _ _, .int .i64 _, .int .i64 _]) rfl) ?_
      refine wl_store_box ty64 hS471 rfl (v := .agg #[.slice _ _ _, .int .i64 _, .int .i64 _]) rfl (vs := [.slice _ _ _, .int .i64 _, .int .i64 _]) rfl rfl rfl (.there .here) (cs' := [.slice _ _ _, .int .i64 _, .int .i64 _]) rfl rfl ?_
      intro w502 hS503
      refine wl_nil <| c_region <| wl_h hS503.toHeld (r_assign (v := .bool _) rfl) <| wl_nil <| c_nil <| q_norm <| c_region <| wl_h hS503.toHeld (r_move (v := .int .i64 _) rfl) ?_
      obtain ⟨hc504, hM⟩ := chk_ok hM
      refine wl_h hS503.toHeld (r_add (a := _) (b := _) rfl rfl (ok_lo hc504) (ok_hi hc504)) <| wl_h hS503.toHeld (r_assign (v := .int .i64 _) rfl) <| wl_nil <| c_nil <| q_loop ?_
      have hS505 := hS503.weaken (.cons _ (.cons_cons _ (.cons_cons _ (.cons_cons _ (.cons_cons _ (.refl _))))))
      exact ⟨k_0, Nat.lt_succ_self _, true, i366 + 1, x491, r417, r461.2.1, a498, x491.length, c500, hM, hr501, hS505, rfl, rfl, rfl, rfl, rfl, rfl⟩
     ·replace hM := bif_f h490 hM
      refine c_skip <| c_nil <| q_norm <| c_region <| wl_h hS471.toHeld (r_move (v := .int .i64 _) rfl) ?_
      obtain ⟨hc506, hM⟩ := chk_ok hM
      refine wl_h hS471.toHeld (r_add (a := _) (b := _) rfl rfl (ok_lo hc506) (ok_hi hc506)) <| wl_h hS471.toHeld (r_assign (v := .int .i64 _) rfl) <| wl_nil <| c_nil <| q_loop ?_
      have hS507 := hS471.weaken (.cons _ (.cons_cons _ (.cons_cons _ (.cons_cons _ (.cons_cons _ (.refl _))))))
      exact ⟨k_0, Nat.lt_succ_self _, found365, i366 + 1, y367, y372, y373, a368, y367.length, c370, hM, hr371, hS507, rfl, rfl, rfl, rfl, rfl, rfl⟩
   ·replace hM := bif_f h473 hM
    refine wl_off (t := 50) (b := false) rfl rfl rfl ?_
    refine wl_off (t := 50) (b := false) rfl rfl rfl ?_
    refine wl_off (t := 50) (b := false) rfl rfl rfl ?_
    refine wl_none (t := 53) rfl rfl ?_
    refine wl_none (t := 53) rfl rfl ?_
    refine wl_none (t := 53) rfl rfl ?_
    refine wl_none (t := 53) rfl rfl ?_
    refine wl_off (t := 50) (b := false) rfl rfl rfl ?_
    refine wl_h hS471.toHeld (r_pick_f rfl (v := .bool _) rfl) <| wl_nil <| c_false rfl <| c_skip <| c_nil <| q_norm <| c_region <| wl_h hS471.toHeld (r_move (v := .int .i64 _) rfl) ?_
    obtain ⟨hc508, hM⟩ := chk_ok hM
    refine wl_h hS471.toHeld (r_add (a := _) (b := _) rfl rfl (ok_lo hc508) (ok_hi hc508)) <| wl_h hS471.toHeld (r_assign (v := .int .i64 _) rfl) <| wl_nil <| c_nil <| q_loop ?_
    have hS509 := hS471.weaken (.cons _ (.cons_cons _ (.cons_cons _ (.cons_cons _ (.cons_cons _ (.refl _))))))
    exact ⟨k_0, Nat.lt_succ_self _, found365, i366 + 1, y367, y372, y373, a368, y367.length, c370, hM, hr371, hS509, rfl, rfl, rfl, rfl, rfl, rfl⟩
  ·replace hM := bif_f h384 hM
   refine c_exit <| q_loopx <| q_hit <| c_seq <| c_region <| wl_h hS377.toHeld (r_box ty64 (k := 0) .here rfl rfl rfl (v := .agg #[.slice _ _ _, .int .i64 _, .int .i64 _]) rfl) ?_
   refine wl_h hS377.toHeld (r_move (v := .bool _) rfl) <| wl_store_box ty64 hS377 rfl (v := .agg #[.slice _ _ _, .int .i64 _, .int .i64 _]) rfl (vs := [.slice _ _ _, .int .i64 _, .int .i64 _]) rfl rfl rfl (.there (.there .here)) (cs' := [.slice _ _ _, .int .i64 _, .int .i64 _]) rfl rfl ?_
   intro w510 hS511
   refine wl_h hS511.toHeld (r_assign (v := .bool _) rfl) <| wl_nil <| c_ret <| ret_many rfl (.cell (v := .agg #[.slice _ _ _, .int .i64 _, .int .i64 _]) rfl (ty64.run_loadVar (cs := [.slice _ _ _, .int .i64 _, .int .i64 _]) (box_at (hS511.toHeld.own (.there (.there .here)))) rfl) (.tmp (v := .bool _) rfl .nil)) ?_
   obtain rfl := some_eq hM
   have hS512 := hS511.weaken (.cons _ (.cons _ (.cons _ (.cons _ (.refl _)))))
   exact ⟨m22, a368, y367.length, c370, rfl, le32, hr371, hS512⟩

theorem cg25 {m : Mem} {L : List Atom} {w : World} {cs1 : List Value} {f3 : Fleet} {a13 : Option Addr} {n14 c15 : Nat} {stops17 : List Int} (hS : St w m L) (hx2 : RFleet m cs1 f3) (hr16 : RSl 1 RInt m a13 n14 c15 stops17) {fuel : Nat} {r : Tour × Int} (hM : mg25 fuel f3 stops17 = some r) : Calls P0 25 [.agg cs1.toArray, .slice a13 n14 c15].toArray w (Ret fun v w' => ∃ (m' : Mem) (a0 : Option Addr) (n0 : Nat) (c0 : Nat), v = .tuple #[.agg #[.slice a0 n0 c0, .int .i64 r.1.leave, .int .i64 r.1.fin], .int .i64 r.2] ∧ m ≤ m' ∧ RSl 1 RInt m' a0 n0 c0 r.1.stops ∧ St w' m' (L)) := by
 rw [mg25] at hM
 have hk12 := hx2
 obtain ⟨a4, n5, c6, a8, n9, c10, rfl, hr7, hr11⟩ := hx2
 obtain rfl := hr7.1
 obtain rfl := hr11.1
 obtain rfl := hr16.1
 refine enter Tryz.func25 rfl Tryz.ntmps25 (Nat.le_of_ble_eq_true rfl) ?_
 refine c_seq <| c_region <| wl_box hS (v := .agg #[.slice _ _ _, .slice _ _ _, .int .i64 _, .int .i64 _, .int .i64 _]) rfl (cs := [.slice _ _ _, .slice _ _ _, .int .i64 _, .int .i64 _, .int .i64 _]) rfl ?_
 intro b18 w19 hS20
 refine wl_alloc ty64 rfl hS20 ?_
 intro b21 w22 hS23
 refine wl_h hS23.toHeld (r_assign (v := .int .i64 _) rfl) <| wl_nil <| c_seq <| c_seq <| c_region <| wl_h hS23.toHeld (r_box ty53 (k := 0) (.there .here) rfl rfl rfl (v := .agg #[.slice _ _ _, .slice _ _ _, .int .i64 _, .int .i64 _, .int .i64 _]) rfl) ?_
 refine wl_h hS23.toHeld (r_move (v := .slice _ _ _) rfl) ?_
 obtain ⟨r24, hq25, hM⟩ := bnd_ok hM
 refine wl_call ent68 (vals := [.agg #[.slice _ _ _, .slice _ _ _, .int .i64 _, .int .i64 _, .int .i64 _], .slice _ _ _]) rfl (cg68 hS23 hk12 hr16 hq25) ?_
 rintro _ w27 ⟨rfl, hS28⟩
 refine wl_h hS28.toHeld (r_assign (v := .int .i64 _) rfl) <| wl_nil <| c_seq <| c_region <| wl_h hS28.toHeld (r_move (v := .int .i64 _) rfl) ?_
 refine wl_h hS28.toHeld (r_neq (a := _) (b := _) rfl rfl) <| wl_nil <| c_cond (c := _) rfl (fun h29 => ?_) (fun h29 => ?_)
 ·replace hM := bif_t h29 hM
  refine c_seq <| c_region <| wl_h hS28.toHeld (r_build ty64 st64 (ps := []) rfl rfl (cs := [.slice _ _ _, .int .i64 _, .int .i64 _]) rfl) <| wl_h hS28.toHeld (r_move (v := .int .i64 _) rfl) <| wl_store_box ty64 hS28 rfl (v := .agg #[.slice _ _ _, .int .i64 _, .int .i64 _]) rfl (vs := [.slice _ _ _, .int .i64 _, .int .i64 _]) rfl rfl rfl .here (cs' := [.slice _ _ _, .int .i64 _, .int .i64 _]) rfl rfl ?_
  intro w30 hS31
  refine wl_h hS31.toHeld (r_assign (v := .int .i64 _) rfl) <| wl_nil <| c_ret <| ret_many rfl (.cell (v := .agg #[.slice _ _ _, .int .i64 _, .int .i64 _]) rfl (ty64.run_loadVar (cs := [.slice _ _ _, .int .i64 _, .int .i64 _]) (box_at (hS31.toHeld.own .here)) rfl) (.tmp (v := .int .i64 _) rfl .nil)) ?_
  obtain rfl := some_eq hM
  have hS32 := hS31.weaken (.cons _ (.cons _ (.refl _)))
  exact ⟨m, none, 0, 0, rfl, Mem.le_refl _, RSl.nil, hS32⟩
 ·replace hM := bif_f h29 hM
  refine c_skip <| c_seq <| c_region <| wl_h hS28.toHeld (r_assign (v := .int .i64 _) rfl) <| wl_nil <| c_seq <| c_seq <| c_region <| wl_h hS28.toHeld (r_assign (v := .int .i64 _) rfl) ?_
  refine wl_nil <| c_block <| c_loop (fun k f w => ∃ (set71 : Int) (i72 : Int), mg25_l0 fuel f3 stops17 k set71 i72 = some r ∧ St w m (.box b21 64 [.slice none 0 0, .int .i64 0, .int .i64 0] :: .box b18 53 [.slice a4 f3.stops.length c6, .slice a8 f3.minutes.length c10, .int .i64 f3.cap, .int .i64 f3.start, .int .i64 f3.back] :: L) ∧ f 1 = .slice a13 stops17.length c15 ∧ f 2 = .pointer (some ⟨b18, 0, none⟩) ∧ f 4 = .pointer (some ⟨b21, 0, none⟩) ∧ f 7 = .int .i64 set71 ∧ f 8 = .int .i64 i72) fuel ⟨0, 0, hM, hS28, rfl, rfl, rfl, rfl, rfl⟩ ?_
  rintro k_0 f73 w74 ⟨set71, i72, hM, hS76, e77, e78, e79, e80, e81⟩
  refine c_know (t := 1) e77 <| c_know (t := 2) e78 <| c_know (t := 4) e79 <| c_know (t := 7) e80 <| c_know (t := 8) e81 ?_
  clear e77 e78 e79 e80 e81
  rcases k_0 with _ | k_0
  · exact none_ne hM
  rw [mg25_l0] at hM
  refine c_seq <| c_seq <| c_region <| wl_h hS76.toHeld (r_move (v := .int .i64 _) rfl) <| wl_h hS76.toHeld (r_move (v := .slice _ _ _) rfl) ?_
  refine wl_h hS76.toHeld (r_len Tryz.underlying26 (a := _) (n := _) (c := _) rfl) <| wl_h hS76.toHeld (r_lss (a := _) (b := _) rfl rfl) <| wl_nil <| c_cond (c := _) rfl (fun h82 => ?_) (fun h82 => ?_)
  ·replace hM := bif_t h82 hM
   refine c_skip <| c_seq <| c_block <| c_region <| wl_h hS76.toHeld (r_move (v := .int .i64 _) rfl) ?_
   refine wl_h hS76.toHeld (r_move (v := .slice _ _ _) rfl) <| wl_h hS76.toHeld (r_move (v := .int .i64 _) rfl) ?_
   obtain ⟨x83, hx84, h85, h86, hM⟩ := getK_ok hM
   obtain ⟨b87, o88, rfl⟩ := RSl.elem_a hr16 hx84
   obtain ⟨cs89, hI90, hR91⟩ := RSl.elem_at hr16 hx84
   obtain rfl := hR91
   refine wl_h hS76.toHeld (r_indexAddr Tryz.underlying26 ty3 (b := _) (o := _) (n := _) (c := _) (i := i72) rfl rfl h85 (RSl.lt hr16 h86)) <| wl_h hS76.toHeld (r_imm ty3 (k := 0) hI90 rfl rfl rfl (v := .int .i64 _) rfl) ?_
   obtain ⟨hc92, hM⟩ := chk_ok hM
   refine wl_h hS76.toHeld (r_shl (a := _) (b := _) rfl rfl hc92) ?_
   obtain ⟨hc93, hM⟩ := chk_ok hM
   refine wl_h hS76.toHeld (r_add (a := _) (b := _) rfl rfl (ok_lo hc93) (ok_hi hc93)) <| wl_h hS76.toHeld (r_assign (v := .int .i64 _) rfl) <| wl_nil <| c_nil <| q_norm <| c_region <| wl_h hS76.toHeld (r_move (v := .int .i64 _) rfl) ?_
   obtain ⟨hc94, hM⟩ := chk_ok hM
   refine wl_h hS76.toHeld (r_add (a := _) (b := _) rfl rfl (ok_lo hc94) (ok_hi hc94)) <| wl_h hS76.toHeld (r_assign (v := .int .i64 _) rfl) <| wl_nil <| c_nil <| q_loop ?_
   exact ⟨k_0, Nat.lt_succ_self _, set71 + (ishl 1 x83), i72 + 1, hM, hS76, rfl, rfl, rfl, rfl, rfl⟩
  ·replace hM := bif_f h82 hM
   refine c_exit <| q_loopx <| q_hit <| c_seq <| c_region <| wl_h hS76.toHeld (r_box ty53 (k := 0) (.there .here) rfl rfl rfl (v := .agg #[.slice _ _ _, .slice _ _ _, .int .i64 _, .int .i64 _, .int .i64 _]) rfl) ?_
   refine wl_h hS76.toHeld (r_move (v := .int .i64 _) rfl) ?_
   obtain ⟨r95, hq96, hM⟩ := bnd_ok hM
   refine wl_call ent75 (vals := [.agg #[.slice _ _ _, .slice _ _ _, .int .i64 _, .int .i64 _, .int .i64 _], .int .i64 _]) rfl (cg75 hS76 hk12 hq96) ?_
   rintro _ w103 ⟨m97, a99, n100, c101, rfl, hm98, hr102, hS104⟩
   obtain rfl := hr102.1
   have le105 := hm98
   replace hk12 := RFleet.mono _ _ _ _ hk12 hm98
   replace hr7 := RSl.mono RStop.mono hr7 hm98
   replace hr11 := RSl.mono (RS.mono RInt.mono) hr11 hm98
   replace hr16 := RSl.mono RInt.mono hr16 hm98
   refine wl_h hS104.toHeld (r_move (v := .tuple #[.agg #[.slice _ _ _, .int .i64 _, .int .i64 _], .bool _]) rfl) <| wl_h hS104.toHeld (r_extract (vs := [.agg #[.slice _ _ _, .int .i64 _, .int .i64 _], .bool _]) rfl (v := .agg #[.slice _ _ _, .int .i64 _, .int .i64 _]) rfl) <| wl_h hS104.toHeld (r_extract (vs := [.agg #[.slice _ _ _, .int .i64 _, .int .i64 _], .bool _]) rfl (v := .bool _) rfl) <| wl_alloc ty64 rfl hS104 ?_
   intro b106 w107 hS108
   refine wl_store_box ty64 hS108 rfl (v := .agg #[.slice _ _ _, .int .i64 _, .int .i64 _]) rfl (vs := [.slice _ _ _, .int .i64 _, .int .i64 _]) rfl rfl rfl .here (cs' := [.slice _ _ _, .int .i64 _, .int .i64 _]) rfl rfl ?_
   intro w109 hS110
   refine wl_h hS110.toHeld (r_assign (v := .bool _) rfl) <| wl_nil <| c_seq <| c_seq <| c_region <| wl_h hS110.toHeld (r_move (v := .bool _) rfl) ?_
   refine wl_h hS110.toHeld (r_not (b := _) rfl) <| wl_nil <| c_cond (c := _) rfl (fun h111 => ?_) (fun h111 => ?_)
   ·replace hM := bif_t h111 hM
    refine c_seq <| c_region <| wl_h hS110.toHeld (r_build ty64 st64 (ps := []) rfl rfl (cs := [.slice _ _ _, .int .i64 _, .int .i64 _]) rfl) <| wl_store_box ty64 hS110 rfl (v := .agg #[.slice _ _ _, .int .i64 _, .int .i64 _]) rfl (vs := [.slice _ _ _, .int .i64 _, .int .i64 _]) rfl rfl rfl (.there .here) (cs' := [.slice _ _ _, .int .i64 _, .int .i64 _]) rfl rfl ?_
    intro w112 hS113
    refine wl_h hS113.toHeld (r_assign (v := .int .i64 _) rfl) <| wl_nil <| c_ret <| ret_many rfl (.cell (v := .agg #[.slice _ _ _, .int .i64 _, .int .i64 _]) rfl (ty64.run_loadVar (cs := [.slice _ _ _, .int .i64 _, .int .i64 _]) (box_at (hS113.toHeld.own (.there .here))) rfl) (.tmp (v := .int .i64 _) rfl .nil)) ?_
    obtain rfl := some_eq hM
    have hS114 := hS113.weaken (.cons _ (.cons _ (.cons _ (.refl _))))
    exact ⟨m97, none, 0, 0, rfl, le105, RSl.nil, hS114⟩
   ·replace hM := bif_f h111 hM
    refine c_skip <| c_seq <| c_region <| wl_h hS110.toHeld (r_box ty64 (k := 0) .here rfl rfl rfl (v := .agg #[.slice _ _ _, .int .i64 _, .int .i64 _]) rfl) <| wl_store_box ty64 hS110 rfl (v := .agg #[.slice _ _ _, .int .i64 _, .int .i64 _]) rfl (vs := [.slice _ _ _, .int .i64 _, .int .i64 _]) rfl rfl rfl (.there .here) (cs' := [.slice _ _ _, .int .i64 _, .int .i64 _]) rfl rfl ?_
    intro w115 hS116
    refine wl_h hS116.toHeld (r_assign (v := .int .i64 _) rfl) <| wl_nil <| c_ret <| ret_many rfl (.cell (v := .agg #[.slice _ _ _, .int .i64 _, .int .i64 _]) rfl (ty64.run_loadVar (cs := [.slice _ _ _, .int .i64 _, .int .i64 _]) (box_at (hS116.toHeld.own (.there .here))) rfl) (.tmp (v := .int .i64 _) rfl .nil)) ?_
    obtain rfl := some_eq hM
    have hS117 := hS116.weaken (.cons _ (.cons _ (.cons _ (.refl _))))
    exact ⟨m97, a99, r95.1.stops.length, c101, rfl, le105, hr102, hS117⟩

theorem cg26 {m : Mem} {L : List Atom} {w : World} {cs1 : List Value} {f3 : Fleet} {a13 : Option Addr} {n14 c15 : Nat} {stops17 : List Int} (hS : St w m L) (hx2 : RFleet m cs1 f3) (hr16 : RSl 1 RInt m a13 n14 c15 stops17) {fuel : Nat} {r : Int × Int} (hM : mg26 fuel f3 stops17 = some r) : Calls P0 26 [.agg cs1.toArray, .slice a13 n14 c15].toArray w (Ret fun v w' => v = .tuple #[.int .i64 r.1, .int .i64 r.2] ∧ St w' m (L)) := by
 rw [mg26] at hM
 have hk12 := hx2
 obtain ⟨a4, n5, c6, a8, n9, c10, rfl, hr7, hr11⟩ := hx2
 obtain rfl := hr7.1
 obtain rfl := hr11.1
 obtain rfl := hr16.1
 refine enter Tryz.func26 rfl Tryz.ntmps26 (Nat.le_of_ble_eq_true rfl) ?_
 refine c_seq <| c_region <| wl_box hS (v := .agg #[.slice _ _ _, .slice _ _ _, .int .i64 _, .int .i64 _, .int .i64 _]) rfl (cs := [.slice _ _ _, .slice _ _ _, .int .i64 _, .int .i64 _, .int .i64 _]) rfl ?_
 intro b18 w19 hS20
 refine wl_h hS20.toHeld (r_assign (v := .int .i64 _) rfl) <| wl_h hS20.toHeld (r_assign (v := .int .i64 _) rfl) <| wl_nil <| c_seq <| c_region <| wl_h hS20.toHeld (r_box ty25 (k := 0) .here rfl rfl rfl (v := .agg #[.slice _ _ _, .slice _ _ _, .int .i64 _, .int .i64 _, .int .i64 _]) rfl) ?_
 refine wl_h hS20.toHeld (r_move (v := .slice _ _ _) rfl) ?_
 obtain ⟨r21, hq22, hM⟩ := bnd_ok hM
 refine wl_call ent20 (vals := [.agg #[.slice _ _ _, .slice _ _ _, .int .i64 _, .int .i64 _, .int .i64 _], .slice _ _ _]) rfl (cg20 hS20 hk12 hr16 hq22) ?_
 rintro _ w36 ⟨a24, n25, c26, cs27, a30, n31, c32, cs33, rfl, rfl, hrc28, rfl, hrc34, hS37⟩
 refine wl_h hS37.toHeld (r_move (v := .tuple #[.agg #[.slice _ _ _, .int .i64 _, .int .i64 _], .slice _ _ _, .int .i64 _]) rfl) <| wl_h hS37.toHeld (r_extract (vs := [.agg #[.slice _ _ _, .int .i64 _, .int .i64 _], .slice _ _ _, .int .i64 _]) rfl (v := .agg #[.slice _ _ _, .int .i64 _, .int .i64 _]) rfl) <| wl_h hS37.toHeld (r_extract (vs := [.agg #[.slice _ _ _, .int .i64 _, .int .i64 _], .slice _ _ _, .int .i64 _]) rfl (v := .slice _ _ _) rfl) <| wl_h hS37.toHeld (r_extract (vs := [.agg #[.slice _ _ _, .int .i64 _, .int .i64 _], .slice _ _ _, .int .i64 _]) rfl (v := .int .i64 _) rfl) <| wl_alloc ty61 rfl hS37 ?_
 intro b38 w39 hS40
 refine wl_store_box ty61 hS40 rfl (v := .agg #[.slice _ _ _, .int .i64 _, .int .i64 _]) rfl (vs := [.slice _ _ _, .int .i64 _, .int .i64 _]) rfl rfl rfl .here (cs' := [.slice _ _ _, .int .i64 _, .int .i64 _]) rfl rfl ?_
 intro w41 hS42
 refine wl_h hS42.toHeld (r_assign (v := .slice _ _ _) rfl) <| wl_h hS42.toHeld (r_assign (v := .int .i64 _) rfl) <| wl_nil <| c_seq <| c_seq <| c_region <| wl_h hS42.toHeld (r_move (v := .int .i64 _) rfl) ?_
 refine wl_h hS42.toHeld (r_neq (a := _) (b := _) rfl rfl) <| wl_nil <| c_cond (c := _) rfl (fun h43 => ?_) (fun h43 => ?_)
 ·replace hM := bif_t h43 hM
  refine c_seq <| c_region <| wl_h hS42.toHeld (r_move (v := .int .i64 _) rfl) <| wl_h hS42.toHeld (r_assign (v := .int .i64 _) rfl) <| wl_h hS42.toHeld (r_assign (v := .int .i64 _) rfl) ?_
  refine wl_nil <| c_ret <| ret_many rfl (.tmp (v := .int .i64 _) rfl (.tmp (v := .int .i64 _) rfl .nil)) ?_
  obtain rfl := some_eq hM
  have hS44 := hS42.weaken (.cons _ (.cons _ (.cons _ (.cons _ (.refl _)))))
  exact ⟨rfl, hS44⟩
 ·replace hM := bif_f h43 hM
  refine c_skip <| c_seq <| c_region <| wl_h hS42.toHeld (r_assign (v := .int .i64 _) rfl) <| wl_nil <| c_block ?_
  have hS45 := hS42.weaken (.cons_cons _ (.cons_cons _ (.cons _ (.cons_cons _ (.refl _)))))
  refine c_loop (fun k f w => ∃ (n74 : Int), mg26_l0 fuel f3 stops17 r21 k n74 = some r ∧ St w m (.box b38 61 [.slice a24 r21.1.stops.length c26, .int .i64 r21.1.leave, .int .i64 r21.1.fin] :: .row (.slice a24 r21.1.stops.length c26) 3 1 cs27 :: .box b18 25 [.slice a4 f3.stops.length c6, .slice a8 f3.minutes.length c10, .int .i64 f3.cap, .int .i64 f3.start, .int .i64 f3.back] :: L) ∧ f 1 = .slice a13 stops17.length c15 ∧ f 2 = .pointer (some ⟨b18, 0, none⟩) ∧ f 6 = .pointer (some ⟨b38, 0, none⟩) ∧ f 9 = .int .i64 n74) fuel ⟨0, hM, hS45, rfl, rfl, rfl, rfl⟩ ?_
  rintro k_0 f75 w76 ⟨n74, hM, hS78, e79, e80, e81, e82⟩
  refine c_know (t := 1) e79 <| c_know (t := 2) e80 <| c_know (t := 6) e81 <| c_know (t := 9) e82 ?_
  clear e79 e80 e81 e82
  rcases k_0 with _ | k_0
  · exact none_ne hM
  rw [mg26_l0] at hM
  refine c_block <| c_seq <| c_seq <| c_region <| wl_h hS78.toHeld (r_box ty25 (k := 0) (.there (.there .here)) rfl rfl rfl (v := .agg #[.slice _ _ _, .slice _ _ _, .int .i64 _, .int .i64 _, .int .i64 _]) rfl) ?_
  refine wl_h hS78.toHeld (r_move (v := .slice _ _ _) rfl) <| wl_h hS78.toHeld (r_fieldAddr fld61_1 (b := _) (o := _) rfl) <| wl_h hS78.toHeld (r_box ty3 (k := 1) .here rfl rfl rfl (v := .int .i64 _) rfl) <| wl_h hS78.toHeld (r_move (v := .int .i64 _) rfl) ?_
  obtain ⟨hc83, hM⟩ := chk_ok hM
  refine wl_h hS78.toHeld (r_add (a := _) (b := _) rfl rfl (ok_lo hc83) (ok_hi hc83)) ?_
  obtain ⟨hc84, hM⟩ := chk_ok hM
  refine wl_h hS78.toHeld (r_add (a := _) (b := _) rfl rfl (ok_lo hc84) (ok_hi hc84)) ?_
  obtain ⟨r85, hq86, hM⟩ := bnd_ok hM
  refine wl_call ent66 (vals := [.agg #[.slice _ _ _, .slice _ _ _, .int .i64 _, .int .i64 _, .int .i64 _], .slice _ _ _, .int .i64 _]) rfl (cg66 hS78 hk12 hr16 hq86) ?_
  rintro _ w100 ⟨a88, n89, c90, cs91, a94, n95, c96, cs97, rfl, rfl, hrc92, rfl, hrc98, hS101⟩
  refine wl_h hS101.toHeld (r_move (v := .tuple #[.agg #[.slice _ _ _, .int .i64 _, .int .i64 _], .slice _ _ _, .bool _]) rfl) <| wl_h hS101.toHeld (r_extract (vs := [.agg #[.slice _ _ _, .int .i64 _, .int .i64 _], .slice _ _ _, .bool _]) rfl (v := .agg #[.slice _ _ _, .int .i64 _, .int .i64 _]) rfl) <| wl_h hS101.toHeld (r_extract (vs := [.agg #[.slice _ _ _, .int .i64 _, .int .i64 _], .slice _ _ _, .bool _]) rfl (v := .slice _ _ _) rfl) <| wl_h hS101.toHeld (r_extract (vs := [.agg #[.slice _ _ _, .int .i64 _, .int .i64 _], .slice _ _ _, .bool _]) rfl (v := .bool _) rfl) <| wl_alloc ty61 rfl hS101 ?_
  intro b102 w103 hS104
  refine wl_store_box ty61 hS104 rfl (v := .agg #[.slice _ _ _, .int .i64 _, .int .i64 _]) rfl (vs := [.slice _ _ _, .int .i64 _, .int .i64 _]) rfl rfl rfl .here (cs' := [.slice _ _ _, .int .i64 _, .int .i64 _]) rfl rfl ?_
  intro w105 hS106
  refine wl_h hS106.toHeld (r_assign (v := .slice _ _ _) rfl) <| wl_h hS106.toHeld (r_assign (v := .bool _) rfl) <| wl_nil <| c_seq <| c_region <| wl_h hS106.toHeld (r_move (v := .bool _) rfl) ?_
  refine wl_h hS106.toHeld (r_not (b := _) rfl) <| wl_nil <| c_cond (c := _) rfl (fun h107 => ?_) (fun h107 => ?_)
  ·replace hM := bif_t h107 hM
   refine c_seq <| c_region <| wl_h hS106.toHeld (r_move (v := .int .i64 _) rfl) <| wl_h hS106.toHeld (r_assign (v := .int .i64 _) rfl) <| wl_h hS106.toHeld (r_assign (v := .int .i64 _) rfl) ?_
   refine wl_nil <| c_ret <| q_retb <| q_retl <| q_retb ?_
   refine ret_many rfl (.tmp (v := .int .i64 _) rfl (.tmp (v := .int .i64 _) rfl .nil)) ?_
   obtain rfl := some_eq hM
   have hS108 := hS106.weaken (.cons _ (.cons _ (.cons _ (.cons _ (.cons _ (.cons _ (.refl _)))))))
   exact ⟨rfl, hS108⟩
  ·replace hM := bif_f h107 hM
   refine c_skip <| c_region <| wl_h hS106.toHeld (r_move (v := .int .i64 _) rfl) ?_
   obtain ⟨hc109, hM⟩ := chk_ok hM
   refine wl_h hS106.toHeld (r_add (a := _) (b := _) rfl rfl (ok_lo hc109) (ok_hi hc109)) <| wl_h hS106.toHeld (r_assign (v := .int .i64 _) rfl) <| wl_nil <| c_nil <| q_norm <| c_nil <| q_loop ?_
   have hS110 := hS106.weaken (.cons _ (.cons _ (.cons _ (.cons_cons _ (.cons_cons _ (.cons_cons _ (.refl _)))))))
   exact ⟨k_0, Nat.lt_succ_self _, n74 + 1, hM, hS110, rfl, rfl, rfl, rfl⟩

theorem cg27 {m : Mem} {L : List Atom} {w : World} {cs1 : List Value} {f3 : Fleet} {a13 : Option Addr} {n14 c15 : Nat} {stops17 : List Int} (hS : St w m L) (hx2 : RFleet m cs1 f3) (hr16 : RSl 1 RInt m a13 n14 c15 stops17) {fuel : Nat} {r : Int × Int} (hM : mg27 fuel f3 stops17 = some r) : Calls P0 27 [.agg cs1.toArray, .slice a13 n14 c15].toArray w (Ret fun v w' => v = .tuple #[.int .i64 r.1, .int .i64 r.2] ∧ St w' m (L)) := by
 rw [mg27] at hM
 have hk12 := hx2
 obtain ⟨a4, n5, c6, a8, n9, c10, rfl, hr7, hr11⟩ := hx2
 obtain rfl := hr7.1
 obtain rfl := hr11.1
 obtain rfl := hr16.1
 refine enter Tryz.func27 rfl Tryz.ntmps27 (Nat.le_of_ble_eq_true rfl) ?_
 refine c_seq <| c_region <| wl_box hS (v := .agg #[.slice _ _ _, .slice _ _ _, .int .i64 _, .int .i64 _, .int .i64 _]) rfl (cs := [.slice _ _ _, .slice _ _ _, .int .i64 _, .int .i64 _, .int .i64 _]) rfl ?_
 intro b18 w19 hS20
 refine wl_h hS20.toHeld (r_assign (v := .int .i64 _) rfl) <| wl_h hS20.toHeld (r_assign (v := .int .i64 _) rfl) <| wl_nil <| c_seq <| c_region <| wl_h hS20.toHeld (r_box ty53 (k := 0) .here rfl rfl rfl (v := .agg #[.slice _ _ _, .slice _ _ _, .int .i64 _, .int .i64 _, .int .i64 _]) rfl) ?_
 refine wl_h hS20.toHeld (r_move (v := .slice _ _ _) rfl) ?_
 obtain ⟨r21, hq22, hM⟩ := bnd_ok hM
 refine wl_call ent21 (vals := [.agg #[.slice _ _ _, .slice _ _ _, .int .i64 _, .int .i64 _, .int .i64 _], .slice _ _ _]) rfl (cg21 hS20 hk12 hr16 hq22) ?_
 rintro _ w36 ⟨a24, n25, c26, cs27, a30, n31, c32, cs33, rfl, rfl, hrc28, rfl, hrc34, hS37⟩
 refine wl_h hS37.toHeld (r_move (v := .tuple #[.agg #[.slice _ _ _, .int .i64 _, .int .i64 _], .slice _ _ _, .int .i64 _]) rfl) <| wl_h hS37.toHeld (r_extract (vs := [.agg #[.slice _ _ _, .int .i64 _, .int .i64 _], .slice _ _ _, .int .i64 _]) rfl (v := .agg #[.slice _ _ _, .int .i64 _, .int .i64 _]) rfl) <| wl_h hS37.toHeld (r_extract (vs := [.agg #[.slice _ _ _, .int .i64 _, .int .i64 _], .slice _ _ _, .int .i64 _]) rfl (v := .slice _ _ _) rfl) <| wl_h hS37.toHeld (r_extract (vs := [.agg #[.slice _ _ _, .int .i64 _, .int .i64 _], .slice _ _ _, .int .i64 _]) rfl (v := .int .i64 _) rfl) <| wl_alloc ty64 rfl hS37 ?_
 intro b38 w39 hS40
 refine wl_store_box ty64 hS40 rfl (v := .agg #[.slice _ _ _, .int .i64 _, .int .i64 _]) rfl (vs := [.slice _ _ _, .int .i64 _, .int .i64 _]) rfl rfl rfl .here (cs' := [.slice _ _ _, .int .i64 _, .int .i64 _]) rfl rfl ?_
 intro w41 hS42
 refine wl_h hS42.toHeld (r_assign (v := .slice _ _ _) rfl) <| wl_h hS42.toHeld (r_assign (v := .int .i64 _) rfl) <| wl_nil <| c_seq <| c_seq <| c_region <| wl_h hS42.toHeld (r_move (v := .int .i64 _) rfl) ?_
 refine wl_h hS42.toHeld (r_neq (a := _) (b := _) rfl rfl) <| wl_nil <| c_cond (c := _) rfl (fun h43 => ?_) (fun h43 => ?_)
 ·replace hM := bif_t h43 hM
  refine c_seq <| c_region <| wl_h hS42.toHeld (r_move (v := .int .i64 _) rfl) <| wl_h hS42.toHeld (r_assign (v := .int .i64 _) rfl) <| wl_h hS42.toHeld (r_assign (v := .int .i64 _) rfl) ?_
  refine wl_nil <| c_ret <| ret_many rfl (.tmp (v := .int .i64 _) rfl (.tmp (v := .int .i64 _) rfl .nil)) ?_
  obtain rfl := some_eq hM
  have hS44 := hS42.weaken (.cons _ (.cons _ (.cons _ (.cons _ (.refl _)))))
  exact ⟨rfl, hS44⟩
 ·replace hM := bif_f h43 hM
  refine c_skip <| c_seq <| c_seq <| c_region <| wl_h hS42.toHeld (r_assign (v := .int .i64 _) rfl) ?_
  refine wl_nil <| c_block ?_
  have hS45 := hS42.weaken (.cons_cons _ (.cons_cons _ (.cons _ (.cons_cons _ (.refl _)))))
  refine c_loop (fun k f w => ∃ (n64 : Int), mg27_l0 fuel f3 stops17 r21 k n64 = some r ∧ St w m (.box b38 64 [.slice a24 r21.1.stops.length c26, .int .i64 r21.1.leave, .int .i64 r21.1.fin] :: .row (.slice a24 r21.1.stops.length c26) 3 1 cs27 :: .box b18 53 [.slice a4 f3.stops.length c6, .slice a8 f3.minutes.length c10, .int .i64 f3.cap, .int .i64 f3.start, .int .i64 f3.back] :: L) ∧ f 1 = .slice a13 stops17.length c15 ∧ f 2 = .pointer (some ⟨b18, 0, none⟩) ∧ f 6 = .pointer (some ⟨b38, 0, none⟩) ∧ f 9 = .int .i64 n64) fuel ⟨1440, hM, hS45, rfl, rfl, rfl, rfl⟩ ?_
  rintro k_0 f65 w66 ⟨n64, hM, hS68, e69, e70, e71, e72⟩
  refine c_know (t := 1) e69 <| c_know (t := 2) e70 <| c_know (t := 6) e71 <| c_know (t := 9) e72 ?_
  clear e69 e70 e71 e72
  rcases k_0 with _ | k_0
  · exact none_ne hM
  rw [mg27_l0] at hM
  refine c_seq <| c_seq <| c_region <| wl_h hS68.toHeld (r_move (v := .int .i64 _) rfl) <| wl_h hS68.toHeld (r_gtr (a := _) (b := _) rfl rfl) ?_
  refine wl_nil <| c_cond (c := _) rfl (fun h73 => ?_) (fun h73 => ?_)
  ·replace hM := bif_t h73 hM
   refine c_skip <| c_seq <| c_block <| c_seq <| c_region <| wl_h hS68.toHeld (r_box ty53 (k := 0) (.there (.there .here)) rfl rfl rfl (v := .agg #[.slice _ _ _, .slice _ _ _, .int .i64 _, .int .i64 _, .int .i64 _]) rfl) ?_
   refine wl_h hS68.toHeld (r_move (v := .slice _ _ _) rfl) <| wl_h hS68.toHeld (r_fieldAddr fld64_1 (b := _) (o := _) rfl) <| wl_h hS68.toHeld (r_box ty3 (k := 1) .here rfl rfl rfl (v := .int .i64 _) rfl) <| wl_h hS68.toHeld (r_move (v := .int .i64 _) rfl) ?_
   obtain ⟨hc74, hM⟩ := chk_ok hM
   refine wl_h hS68.toHeld (r_add (a := _) (b := _) rfl rfl (ok_lo hc74) (ok_hi hc74)) ?_
   obtain ⟨r75, hq76, hM⟩ := bnd_ok hM
   refine wl_call ent70 (vals := [.agg #[.slice _ _ _, .slice _ _ _, .int .i64 _, .int .i64 _, .int .i64 _], .slice _ _ _, .int .i64 _]) rfl (cg70 hS68 hk12 hr16 hq76) ?_
   rintro _ w84 ⟨a78, n79, c80, cs81, rfl, rfl, hrc82, hS85⟩
   refine wl_h hS85.toHeld (r_move (v := .tuple #[.slice _ _ _, .int .i64 _, .bool _]) rfl) <| wl_h hS85.toHeld (r_extract (vs := [.slice _ _ _, .int .i64 _, .bool _]) rfl (v := .slice _ _ _) rfl) <| wl_h hS85.toHeld (r_extract (vs := [.slice _ _ _, .int .i64 _, .bool _]) rfl (v := .int .i64 _) rfl) <| wl_h hS85.toHeld (r_extract (vs := [.slice _ _ _, .int .i64 _, .bool _]) rfl (v := .bool _) rfl) <| wl_h hS85.toHeld (r_assign (v := .slice _ _ _) rfl) ?_
   refine wl_h hS85.toHeld (r_assign (v := .int .i64 _) rfl) <| wl_h hS85.toHeld (r_assign (v := .bool _) rfl) <| wl_nil <| c_seq <| c_region <| wl_h hS85.toHeld (r_move (v := .bool _) rfl) ?_
   refine wl_nil <| c_cond (c := _) rfl (fun h86 => ?_) (fun h86 => ?_)
   ·replace hM := bif_t h86 hM
    refine c_seq <| c_region <| wl_h hS85.toHeld (r_move (v := .int .i64 _) rfl) <| wl_h hS85.toHeld (r_assign (v := .int .i64 _) rfl) <| wl_h hS85.toHeld (r_assign (v := .int .i64 _) rfl) ?_
    refine wl_nil <| c_ret <| q_retb <| q_retl <| q_retb ?_
    refine ret_many rfl (.tmp (v := .int .i64 _) rfl (.tmp (v := .int .i64 _) rfl .nil)) ?_
    obtain rfl := some_eq hM
    have hS87 := hS85.weaken (.cons _ (.cons _ (.cons _ (.cons _ (.refl _)))))
    exact ⟨rfl, hS87⟩
   ·replace hM := bif_f h86 hM
    refine c_skip <| c_nil <| q_norm <| c_region <| wl_h hS85.toHeld (r_move (v := .int .i64 _) rfl) ?_
    obtain ⟨hc88, hM⟩ := chk_ok hM
    refine wl_h hS85.toHeld (r_sub (a := _) (b := _) rfl rfl (ok_lo hc88) (ok_hi hc88)) <| wl_h hS85.toHeld (r_assign (v := .int .i64 _) rfl) <| wl_nil <| c_nil <| q_loop ?_
    have hS89 := hS85.weaken (.cons _ (.cons_cons _ (.cons_cons _ (.cons_cons _ (.refl _)))))
    exact ⟨k_0, Nat.lt_succ_self _, n64 - 1, hM, hS89, rfl, rfl, rfl, rfl⟩
  ·replace hM := bif_f h73 hM
   refine c_exit <| q_loopx <| q_hit <| c_seq <| c_region <| wl_h hS68.toHeld (r_assign (v := .int .i64 _) rfl) ?_
   refine wl_h hS68.toHeld (r_assign (v := .int .i64 _) rfl) <| wl_nil <| c_ret <| ret_many rfl (.tmp (v := .int .i64 _) rfl (.tmp (v := .int .i64 _) rfl .nil)) ?_
   obtain rfl := some_eq hM
   have hS90 := hS68.weaken (.cons _ (.cons _ (.cons _ (.refl _))))
   exact ⟨rfl, hS90⟩

theorem cg40 {m : Mem} {L : List Atom} {w : World} {a1 : Option Addr} {n2 c3 : Nat} {s15 : List (List Int)} {a6 : Option Addr} {n7 c8 : Nat} {s210 : List (List Int)} {q11 : (List Int) → (List Int) → Option Bool} {g12 : FuncId} {caps13 : List Value} (hS : St w m L) (hr4 : RSl 1 (RS 1 RInt) m a1 n2 c3 s15) (hr9 : RSl 1 (RS 1 RInt) m a6 n7 c8 s210) (he14 : Ent P0 g12) (hg15 : ∀ (m' : Mem) (E : List Atom) (w' : World) (a0 : Option Addr) (n0 c0 : Nat) (x0 : (List Int)) (a1 : Option Addr) (n1 c1 : Nat) (x1 : (List Int)) (r : Bool), m ≤ m' → St w' m' (E ++ L) → RSl 1 RInt m' a0 n0 c0 x0 → RSl 1 RInt m' a1 n1 c1 x1 → q11 x0 x1 = some r → Calls P0 g12 (([.slice a0 n0 c0, .slice a1 n1 c1] : List Value) ++ caps13).toArray w' (Ret fun v w'' => v = .bool r ∧ St w'' m' (E ++ L))) {fuel : Nat} {r : Bool} (hM : mg40 fuel s15 s210 q11 = some r) : Calls P0 40 [.slice a1 n2 c3, .slice a6 n7 c8, .func (.func g12) #[] caps13.toArray].toArray w (Ret fun v w' => v = .bool r ∧ St w' m (L)) := by
 rw [mg40] at hM
 obtain rfl := hr4.1
 obtain rfl := hr9.1
 refine enter Tryz.func40 rfl Tryz.ntmps40 (Nat.le_of_ble_eq_true rfl) ?_
 refine c_seq <| c_region <| wl_h hS.toHeld (r_assign (v := .bool _) rfl) <| wl_nil <| c_seq <| c_seq <| c_region <| wl_h hS.toHeld (r_move (v := .slice _ _ _) rfl) ?_
 refine wl_h hS.toHeld (r_len Tryz.underlying23 (a := _) (n := _) (c := _) rfl) <| wl_h hS.toHeld (r_move (v := .slice _ _ _) rfl) <| wl_h hS.toHeld (r_len Tryz.underlying23 (a := _) (n := _) (c := _) rfl) <| wl_h hS.toHeld (r_neq (a := _) (b := _) rfl rfl) <| wl_nil <| c_cond (c := _) rfl (fun h16 => ?_) (fun h16 => ?_)
 ·replace hM := bif_t h16 hM
  refine c_seq <| c_region <| wl_h hS.toHeld (r_assign (v := .bool _) rfl) <| wl_nil <| c_ret <| ret_tmp (t := 6) rfl (v := .bool _) rfl ?_
  obtain rfl := some_eq hM
  exact ⟨rfl, hS⟩
 ·replace hM := bif_f h16 hM
  refine c_skip <| c_seq <| c_seq <| c_region <| wl_h hS.toHeld (r_move (v := .slice _ _ _) rfl) ?_
  refine wl_h hS.toHeld (r_len Tryz.underlying23 (a := _) (n := _) (c := _) rfl) <| wl_h hS.toHeld (r_move (v := .int .i64 _) rfl) <| wl_nil <| c_block <| c_loop (fun k f w => ∃ (x51 : Int), mg40_l0 fuel s15 s210 q11 k x51 = some r ∧ St w m (L) ∧ f 1 = .slice a6 s210.length c8 ∧ f 2 = .func (.func g12) #[] caps13.toArray ∧ f 15 = .slice a1 s15.length c3 ∧ f 16 = .int .i64 ((s15.length : Nat) : Int) ∧ f 17 = .int .i64 x51) fuel ⟨0, hM, hS, rfl, rfl, rfl, rfl, rfl⟩ ?_
  rintro k_0 f52 w53 ⟨x51, hM, hS55, e56, e57, e58, e59, e60⟩
  refine c_know (t := 1) e56 <| c_know (t := 2) e57 <| c_know (t := 15) e58 <| c_know (t := 16) e59 <| c_know (t := 17) e60 ?_
  clear e56 e57 e58 e59 e60
  rcases k_0 with _ | k_0
  · exact none_ne hM
  rw [mg40_l0] at hM
  refine c_seq <| c_region <| wl_h hS55.toHeld (r_lss (a := _) (b := _) rfl rfl) <| wl_nil <| c_seq <| c_cond (c := _) rfl (fun h61 => ?_) (fun h61 => ?_)
  ·replace hM := bif_t h61 hM
   refine c_skip <| c_seq <| c_block <| c_seq <| c_region <| wl_h hS55.toHeld (r_move (v := .int .i64 _) rfl) ?_
   obtain ⟨x62, hx63, h64, h65, hM⟩ := getK_ok hM
   obtain ⟨b66, o67, rfl⟩ := RSl.elem_a hr4 hx63
   obtain ⟨cs68, hI69, hR70⟩ := RSl.elem_at hr4 hx63
   obtain ⟨a71, n72, c73, rfl, hr74⟩ := hR70
   obtain rfl := hr74.1
   refine wl_h hS55.toHeld (r_indexAddr Tryz.underlying23 ty26 (b := _) (o := _) (n := _) (c := _) (i := x51) rfl rfl h64 (RSl.lt hr4 h65)) <| wl_h hS55.toHeld (r_imm ty26 (k := 0) hI69 rfl rfl rfl (v := .slice _ _ _) rfl) <| wl_h hS55.toHeld (r_assign (v := .int .i64 _) rfl) <| wl_h hS55.toHeld (r_assign (v := .slice _ _ _) rfl) <| wl_nil <| c_seq <| c_region <| wl_h hS55.toHeld (r_move (v := .slice _ _ _) rfl) ?_
   refine wl_h hS55.toHeld (r_move (v := .int .i64 _) rfl) ?_
   obtain ⟨x75, hx76, h77, h78, hM⟩ := getK_ok hM
   obtain ⟨b79, o80, rfl⟩ := RSl.elem_a hr9 hx76
   obtain ⟨cs81, hI82, hR83⟩ := RSl.elem_at hr9 hx76
   obtain ⟨a84, n85, c86, rfl, hr87⟩ := hR83
   obtain rfl := hr87.1
   refine wl_h hS55.toHeld (r_indexAddr Tryz.underlying23 ty26 (b := _) (o := _) (n := _) (c := _) (i := x51) rfl rfl h77 (RSl.lt hr9 h78)) <| wl_h hS55.toHeld (r_imm ty26 (k := 0) hI82 rfl rfl rfl (v := .slice _ _ _) rfl) <| wl_h hS55.toHeld (r_assign (v := .slice _ _ _) rfl) <| wl_nil <| c_seq <| c_region <| wl_h hS55.toHeld (r_move (v := .func (.func g12) #[] caps13.toArray) rfl) ?_
   refine wl_h hS55.toHeld (r_move (v := .slice _ _ _) rfl) <| wl_h hS55.toHeld (r_move (v := .slice _ _ _) rfl) ?_
   obtain ⟨r88, hq89, hM⟩ := bnd_ok hM
   refine wl_callv he14 (caps := caps13) rfl (vals := [.slice _ _ _, .slice _ _ _]) rfl (hg15 _ [] _ _ _ _ _ _ _ _ _ _ (Mem.le_refl _) hS55 hr74 hr87 hq89) ?_
   rintro _ w90 ⟨rfl, hS91⟩
   simp only [List.cons_append, List.nil_append] at hS91
   refine wl_h hS91.toHeld (r_not (b := _) rfl) <| wl_nil <| c_cond (c := _) rfl (fun h92 => ?_) (fun h92 => ?_)
   ·replace hM := bif_t h92 hM
    refine c_seq <| c_region <| wl_h hS91.toHeld (r_assign (v := .bool _) rfl) <| wl_nil <| c_ret <| q_retb ?_
    refine q_retl <| q_retb <| ret_tmp (t := 6) rfl (v := .bool _) rfl ?_
    obtain rfl := some_eq hM
    exact ⟨rfl, hS91⟩
   ·replace hM := bif_f h92 hM
    refine c_skip <| c_nil <| q_norm <| c_region ?_
    obtain ⟨hc93, hM⟩ := chk_ok hM
    refine wl_h hS91.toHeld (r_add (a := _) (b := _) rfl rfl (ok_lo hc93) (ok_hi hc93)) <| wl_h hS91.toHeld (r_move (v := .int .i64 _) rfl) <| wl_nil <| c_nil <| q_loop ?_
    exact ⟨k_0, Nat.lt_succ_self _, x51 + 1, hM, hS91, rfl, rfl, rfl, rfl, rfl⟩
  ·replace hM := bif_f h61 hM
   refine c_exit <| q_loopx <| q_hit <| c_seq <| c_region <| wl_h hS55.toHeld (r_assign (v := .bool _) rfl) ?_
   refine wl_nil <| c_ret <| ret_tmp (t := 6) rfl (v := .bool _) rfl ?_
   obtain rfl := some_eq hM
   exact ⟨rfl, hS55⟩

theorem cg76 {m : Mem} {L : List Atom} {w : World} {a1 : Option Addr} {n2 c3 : Nat} {s15 : List Stop} {a6 : Option Addr} {n7 c8 : Nat} {s210 : List Stop} (hS : St w m L) (hr4 : RSl 5 RStop m a1 n2 c3 s15) (hr9 : RSl 5 RStop m a6 n7 c8 s210) {fuel : Nat} {r : Bool} (hM : mg76 fuel s15 s210 = some r) : Calls P0 76 [.slice a1 n2 c3, .slice a6 n7 c8].toArray w (Ret fun v w' => v = .bool r ∧ St w' m (L)) := by
 rw [mg76] at hM
 obtain rfl := hr4.1
 obtain rfl := hr9.1
 refine enter Tryz.func76 rfl Tryz.ntmps76 (Nat.le_of_ble_eq_true rfl) ?_
 refine c_seq <| c_region <| wl_h hS.toHeld (r_assign (v := .bool _) rfl) <| wl_nil <| c_seq <| c_seq <| c_region <| wl_h hS.toHeld (r_move (v := .slice _ _ _) rfl) ?_
 refine wl_h hS.toHeld (r_len Tryz.underlying22 (a := _) (n := _) (c := _) rfl) <| wl_h hS.toHeld (r_move (v := .slice _ _ _) rfl) <| wl_h hS.toHeld (r_len Tryz.underlying22 (a := _) (n := _) (c := _) rfl) <| wl_h hS.toHeld (r_neq (a := _) (b := _) rfl rfl) <| wl_nil <| c_cond (c := _) rfl (fun h11 => ?_) (fun h11 => ?_)
 ·replace hM := bif_t h11 hM
  refine c_seq <| c_region <| wl_h hS.toHeld (r_assign (v := .bool _) rfl) <| wl_nil <| c_ret <| ret_tmp (t := 4) rfl (v := .bool _) rfl ?_
  obtain rfl := some_eq hM
  exact ⟨rfl, hS⟩
 ·replace hM := bif_f h11 hM
  refine c_skip <| c_seq <| c_seq <| c_region <| wl_h hS.toHeld (r_move (v := .slice _ _ _) rfl) ?_
  refine wl_h hS.toHeld (r_len Tryz.underlying22 (a := _) (n := _) (c := _) rfl) <| wl_h hS.toHeld (r_move (v := .int .i64 _) rfl) <| wl_nil <| c_block <| c_loop (fun k f w => ∃ (x56 : Int), mg76_l0 fuel s15 s210 k x56 = some r ∧ St w m (L) ∧ f 0 = .slice a1 s15.length c3 ∧ f 1 = .slice a6 s210.length c8 ∧ f 12 = .int .i64 ((s15.length : Nat) : Int) ∧ f 13 = .int .i64 x56) fuel ⟨0, hM, hS, rfl, rfl, rfl, rfl⟩ ?_
  rintro k_0 f57 w58 ⟨x56, hM, hS60, e61, e62, e63, e64⟩
  refine c_know (t := 0) e61 <| c_know (t := 1) e62 <| c_know (t := 12) e63 <| c_know (t := 13) e64 ?_
  clear e61 e62 e63 e64
  rcases k_0 with _ | k_0
  · exact none_ne hM
  rw [mg76_l0] at hM
  refine c_seq <| c_region <| wl_h hS60.toHeld (r_lss (a := _) (b := _) rfl rfl) <| wl_nil <| c_seq <| c_cond (c := _) rfl (fun h65 => ?_) (fun h65 => ?_)
  ·replace hM := bif_t h65 hM
   refine c_skip <| c_seq <| c_block <| c_seq <| c_region <| wl_h hS60.toHeld (r_move (v := .int .i64 _) rfl) ?_
   refine wl_h hS60.toHeld (r_assign (v := .int .i64 _) rfl) <| wl_nil <| c_seq ?_
   have hH86 := (hS60.weaken (.refl _)).toHeld
   refine c_draw (k := 9) (fun w => Held w m (L)) mixed rfl ?_
   replace hH86 := hH86.drew1
   have hS87 := hS60.drew1
   refine d_v (i := 0) rfl (by kernel_rfl) rfl (r_move (v := .slice _ _ _) rfl) hH86 ?_
   refine d_v (i := 1) rfl (by kernel_rfl) rfl (r_move (v := .int .i64 _) rfl) hH86 ?_
   obtain ⟨x88, hx89, h90, h91, hM⟩ := getK_ok hM
   obtain ⟨b92, o93, rfl⟩ := RSl.elem_a hr4 hx89
   obtain ⟨cs94, hI95, hR96⟩ := RSl.elem_at hr4 hx89
   obtain rfl := hR96
   refine d_v (i := 2) rfl (by kernel_rfl) rfl (r_indexAddr Tryz.underlying22 ty34 (b := _) (o := _) (n := _) (c := _) (i := x56) rfl rfl h90 (RSl.lt hr4 h91)) hH86 ?_
   refine d_v (i := 3) rfl (by kernel_rfl) rfl (r_imm ty34 (k := 0) hI95 rfl rfl rfl (v := .agg #[.int .i64 _, .int .i64 _, .int .i64 _, .int .i64 _, .int .i64 _]) rfl) hH86 ?_
   refine d_v (i := 4) rfl (by kernel_rfl) rfl (r_move (v := .slice _ _ _) rfl) hH86 ?_
   refine d_v (i := 5) rfl (by kernel_rfl) rfl (r_move (v := .int .i64 _) rfl) hH86 ?_
   obtain ⟨x97, hx98, h99, h100, hM⟩ := getK_ok hM
   obtain ⟨b101, o102, rfl⟩ := RSl.elem_a hr9 hx98
   obtain ⟨cs103, hI104, hR105⟩ := RSl.elem_at hr9 hx98
   obtain rfl := hR105
   refine d_v (i := 6) rfl (by kernel_rfl) rfl (r_indexAddr Tryz.underlying22 ty34 (b := _) (o := _) (n := _) (c := _) (i := x56) rfl rfl h99 (RSl.lt hr9 h100)) hH86 ?_
   refine d_v (i := 7) rfl (by kernel_rfl) rfl (r_imm ty34 (k := 0) hI104 rfl rfl rfl (v := .agg #[.int .i64 _, .int .i64 _, .int .i64 _, .int .i64 _, .int .i64 _]) rfl) hH86 ?_
   refine d_v (i := 8) rfl (by kernel_rfl) rfl (r_sneq fb34 (xs := [.int .i64 x88.load, .int .i64 x88.ready, .int .i64 x88.opn, .int .i64 x88.close, .int .i64 x88.serve]) (ys := [.int .i64 x97.load, .int .i64 x97.ready, .int .i64 x97.opn, .int .i64 x97.close, .int .i64 x97.serve]) rfl rfl (.int _ _ (.int _ _ (.int _ _ (.int _ _ (.int _ _ .nil)))))) hH86 ?_
   refine d_end (by kernel_rfl) ?_
   refine c_cond (c := _) rfl (fun h106 => ?_) (fun h106 => ?_)
   ·replace hM := bif_t h106 hM
    refine c_seq <| c_region <| wl_h hS87.toHeld (r_assign (v := .bool _) rfl) <| wl_nil <| c_ret <| q_retb ?_
    refine q_retl <| q_retb <| ret_tmp (t := 4) rfl (v := .bool _) rfl ?_
    obtain rfl := some_eq hM
    exact ⟨rfl, hS87⟩
   ·replace hM := bif_f h106 hM
    refine c_skip <| c_nil <| q_norm <| c_region ?_
    obtain ⟨hc107, hM⟩ := chk_ok hM
    refine wl_h hS87.toHeld (r_add (a := _) (b := _) rfl rfl (ok_lo hc107) (ok_hi hc107)) <| wl_h hS87.toHeld (r_move (v := .int .i64 _) rfl) <| wl_nil <| c_nil <| q_loop ?_
    exact ⟨k_0, Nat.lt_succ_self _, x56 + 1, hM, hS87, rfl, rfl, rfl, rfl⟩
  ·replace hM := bif_f h65 hM
   refine c_exit <| q_loopx <| q_hit <| c_seq <| c_region <| wl_h hS60.toHeld (r_assign (v := .bool _) rfl) ?_
   refine wl_nil <| c_ret <| ret_tmp (t := 4) rfl (v := .bool _) rfl ?_
   obtain rfl := some_eq hM
   exact ⟨rfl, hS60⟩

theorem cg77 {m : Mem} {L : List Atom} {w : World} {a1 : Option Addr} {n2 c3 : Nat} {x5 : List Int} {a6 : Option Addr} {n7 c8 : Nat} {y10 : List Int} (hS : St w m L) (hr4 : RSl 1 RInt m a1 n2 c3 x5) (hr9 : RSl 1 RInt m a6 n7 c8 y10) {fuel : Nat} {r : Bool} (hM : mg77 fuel x5 y10 = some r) : Calls P0 77 [.slice a1 n2 c3, .slice a6 n7 c8].toArray w (Ret fun v w' => v = .bool r ∧ St w' m (L)) := by
 rw [mg77] at hM
 obtain rfl := hr4.1
 obtain rfl := hr9.1
 refine enter Tryz.func77 rfl Tryz.ntmps77 (Nat.le_of_ble_eq_true rfl) ?_
 refine c_seq <| c_region <| wl_h hS.toHeld (r_assign (v := .bool _) rfl) <| wl_nil <| c_seq <| c_region <| wl_h hS.toHeld (r_move (v := .slice _ _ _) rfl) ?_
 refine wl_h hS.toHeld (r_move (v := .slice _ _ _) rfl) ?_
 obtain ⟨r11, hq12, hM⟩ := bnd_ok hM
 refine wl_call ent23 (vals := [.slice _ _ _, .slice _ _ _]) rfl (cg23 hS hr4 hr9 hq12) ?_
 rintro _ w14 ⟨rfl, hS15⟩
 refine wl_h hS15.toHeld (r_assign (v := .bool _) rfl) <| wl_nil <| c_ret <| ret_tmp (t := 4) rfl (v := .bool _) rfl ?_
 obtain rfl := some_eq hM
 exact ⟨rfl, hS15⟩

theorem cg28 {m : Mem} {L : List Atom} {w : World} {cs1 : List Value} {a3 : Fleet} {cs13 : List Value} {b15 : Fleet} (hS : St w m L) (hx2 : RFleet m cs1 a3) (hx14 : RFleet m cs13 b15) {fuel : Nat} {r : Bool} (hM : mg28 fuel a3 b15 = some r) : Calls P0 28 [.agg cs1.toArray, .agg cs13.toArray].toArray w (Ret fun v w' => v = .bool r ∧ St w' m (L)) := by
 rw [mg28] at hM
 have hk12 := hx2
 obtain ⟨a4, n5, c6, a8, n9, c10, rfl, hr7, hr11⟩ := hx2
 obtain rfl := hr7.1
 obtain rfl := hr11.1
 have hk24 := hx14
 obtain ⟨a16, n17, c18, a20, n21, c22, rfl, hr19, hr23⟩ := hx14
 obtain rfl := hr19.1
 obtain rfl := hr23.1
 refine enter Tryz.func28 rfl Tryz.ntmps28 (Nat.le_of_ble_eq_true rfl) ?_
 refine c_seq <| c_region <| wl_box hS (v := .agg #[.slice _ _ _, .slice _ _ _, .int .i64 _, .int .i64 _, .int .i64 _]) rfl (cs := [.slice _ _ _, .slice _ _ _, .int .i64 _, .int .i64 _, .int .i64 _]) rfl ?_
 intro b25 w26 hS27
 refine wl_box hS27 (v := .agg #[.slice _ _ _, .slice _ _ _, .int .i64 _, .int .i64 _, .int .i64 _]) rfl (cs := [.slice _ _ _, .slice _ _ _, .int .i64 _, .int .i64 _, .int .i64 _]) rfl ?_
 intro b28 w29 hS30
 refine wl_h hS30.toHeld (r_assign (v := .bool _) rfl) <| wl_nil <| c_seq <| c_region <| wl_h hS30.toHeld (r_fieldAddr fld25_0 (b := _) (o := _) rfl) ?_
 refine wl_h hS30.toHeld (r_box ty22 (k := 0) (.there .here) rfl rfl rfl (v := .slice _ _ _) rfl) <| wl_h hS30.toHeld (r_fieldAddr fld25_0 (b := _) (o := _) rfl) <| wl_h hS30.toHeld (r_box ty22 (k := 0) .here rfl rfl rfl (v := .slice _ _ _) rfl) ?_
 obtain ⟨r31, hq32, hM⟩ := bnd_ok hM
 refine wl_call ent76 (vals := [.slice _ _ _, .slice _ _ _]) rfl (cg76 hS30 hr7 hr19 hq32) ?_
 rintro _ w34 ⟨rfl, hS35⟩
 refine wl_h hS35.toHeld (r_move (v := .bool _) rfl) <| wl_split rfl (c := _) (t := 10) (fun h36 => ?_) (fun h36 => ?_)
 ·replace hM := bif_t h36 hM
  refine wl_on (t := 10) rfl rfl ?_
  refine wl_h hS35.toHeld (r_fieldAddr fld25_1 (b := _) (o := _) rfl) <| wl_on (t := 10) rfl rfl ?_
  refine wl_h hS35.toHeld (r_box ty23 (k := 1) (.there .here) rfl rfl rfl (v := .slice _ _ _) rfl) <| wl_on (t := 10) rfl rfl ?_
  refine wl_h hS35.toHeld (r_fieldAddr fld25_1 (b := _) (o := _) rfl) <| wl_on (t := 10) rfl rfl ?_
  refine wl_h hS35.toHeld (r_box ty23 (k := 1) .here rfl rfl rfl (v := .slice _ _ _) rfl) <| wl_on (t := 10) rfl rfl ?_
  obtain ⟨r37, hq38, hM⟩ := bnd_ok hM
  refine wl_call ent40 (vals := [.slice _ _ _, .slice _ _ _, .func (.func 77) #[] #[]]) rfl (cg40 hS35 hr11 hr23 (q11 := (mg77 fuel)) (caps13 := []) ent77 (fun m' E w' a0 n0 c0 x0 a1 n1 c1 x1 r hle hSt h0 h1 hq => cg77 hSt h0 h1 hq) hq38) ?_
  rintro _ w40 ⟨rfl, hS41⟩
  refine wl_h hS41.toHeld (r_pick_t rfl (v := .bool _) rfl) <| wl_h hS41.toHeld (r_move (v := .bool _) rfl) <| wl_split rfl (c := _) (t := 17) (fun h42 => ?_) (fun h42 => ?_)
  ·replace hM := bif_t h42 hM
   refine wl_on (t := 17) rfl rfl ?_
   refine wl_h hS41.toHeld (r_fieldAddr fld25_2 (b := _) (o := _) rfl) <| wl_on (t := 17) rfl rfl ?_
   refine wl_h hS41.toHeld (r_box ty3 (k := 2) (.there .here) rfl rfl rfl (v := .int .i64 _) rfl) <| wl_on (t := 17) rfl rfl ?_
   refine wl_h hS41.toHeld (r_fieldAddr fld25_2 (b := _) (o := _) rfl) <| wl_on (t := 17) rfl rfl ?_
   refine wl_h hS41.toHeld (r_box ty3 (k := 2) .here rfl rfl rfl (v := .int .i64 _) rfl) <| wl_on (t := 17) rfl rfl ?_
   refine wl_h hS41.toHeld (r_eql (a := _) (b := _) rfl rfl) <| wl_h hS41.toHeld (r_pick_t rfl (v := .bool _) rfl) <| wl_h hS41.toHeld (r_move (v := .bool _) rfl) <| wl_split rfl (c := _) (t := 24) (fun h43 => ?_) (fun h43 => ?_)
   ·replace hM := bif_t h43 hM
    refine wl_on (t := 24) rfl rfl ?_
    refine wl_h hS41.toHeld (r_fieldAddr fld25_3 (b := _) (o := _) rfl) <| wl_on (t := 24) rfl rfl ?_
    refine wl_h hS41.toHeld (r_box ty3 (k := 3) (.there .here) rfl rfl rfl (v := .int .i64 _) rfl) <| wl_on (t := 24) rfl rfl ?_
    refine wl_h hS41.toHeld (r_fieldAddr fld25_3 (b := _) (o := _) rfl) <| wl_on (t := 24) rfl rfl ?_
    refine wl_h hS41.toHeld (r_box ty3 (k := 3) .here rfl rfl rfl (v := .int .i64 _) rfl) <| wl_on (t := 24) rfl rfl ?_
    refine wl_h hS41.toHeld (r_eql (a := _) (b := _) rfl rfl) <| wl_h hS41.toHeld (r_pick_t rfl (v := .bool _) rfl) <| wl_h hS41.toHeld (r_move (v := .bool _) rfl) <| wl_split rfl (c := _) (t := 31) (fun h44 => ?_) (fun h44 => ?_)
    ·replace hM := bif_t h44 hM
     refine wl_on (t := 31) rfl rfl ?_
     refine wl_h hS41.toHeld (r_fieldAddr fld25_4 (b := _) (o := _) rfl) <| wl_on (t := 31) rfl rfl ?_
     refine wl_h hS41.toHeld (r_box ty3 (k := 4) (.there .here) rfl rfl rfl (v := .int .i64 _) rfl) <| wl_on (t := 31) rfl rfl ?_
     refine wl_h hS41.toHeld (r_fieldAddr fld25_4 (b := _) (o := _) rfl) <| wl_on (t := 31) rfl rfl ?_
     refine wl_h hS41.toHeld (r_box ty3 (k := 4) .here rfl rfl rfl (v := .int .i64 _) rfl) <| wl_on (t := 31) rfl rfl ?_
     refine wl_h hS41.toHeld (r_eql (a := _) (b := _) rfl rfl) <| wl_h hS41.toHeld (r_pick_t rfl (v := .bool _) rfl) <| wl_h hS41.toHeld (r_assign (v := .bool _) rfl) <| wl_nil <| c_ret <| ret_tmp (t := 4) rfl (v := .bool _) rfl ?_
     obtain rfl := some_eq hM
     have hS45 := hS41.weaken (.cons _ (.cons _ (.refl _)))
     exact ⟨rfl, hS45⟩
    ·replace hM := bif_f h44 hM
     refine wl_off (t := 31) (b := false) rfl rfl rfl ?_
     refine wl_off (t := 31) (b := false) rfl rfl rfl ?_
     refine wl_off (t := 31) (b := false) rfl rfl rfl ?_
     refine wl_off (t := 31) (b := false) rfl rfl rfl ?_
     refine wl_off (t := 31) (b := false) rfl rfl rfl ?_
     refine wl_h hS41.toHeld (r_pick_f rfl (v := .bool _) rfl) <| wl_h hS41.toHeld (r_assign (v := .bool _) rfl) <| wl_nil <| c_ret <| ret_tmp (t := 4) rfl (v := .bool _) rfl ?_
     obtain rfl := some_eq hM
     have hS46 := hS41.weaken (.cons _ (.cons _ (.refl _)))
     exact ⟨rfl, hS46⟩
   ·replace hM := bif_f h43 hM
    refine wl_off (t := 24) (b := false) rfl rfl rfl ?_
    refine wl_off (t := 24) (b := false) rfl rfl rfl ?_
    refine wl_off (t := 24) (b := false) rfl rfl rfl ?_
    refine wl_off (t := 24) (b := false) rfl rfl rfl ?_
    refine wl_off (t := 24) (b := false) rfl rfl rfl ?_
    refine wl_h hS41.toHeld (r_pick_f rfl (v := .bool _) rfl) <| wl_h hS41.toHeld (r_move (v := .bool _) rfl) <| wl_off (t := 31) (b := false) rfl rfl rfl ?_
    refine wl_off (t := 31) (b := false) rfl rfl rfl ?_
    refine wl_off (t := 31) (b := false) rfl rfl rfl ?_
    refine wl_off (t := 31) (b := false) rfl rfl rfl ?_
    refine wl_off (t := 31) (b := false) rfl rfl rfl ?_
    refine wl_h hS41.toHeld (r_pick_f rfl (v := .bool _) rfl) <| wl_h hS41.toHeld (r_assign (v := .bool _) rfl) <| wl_nil <| c_ret <| ret_tmp (t := 4) rfl (v := .bool _) rfl ?_
    obtain rfl := some_eq hM
    have hS47 := hS41.weaken (.cons _ (.cons _ (.refl _)))
    exact ⟨rfl, hS47⟩
  ·replace hM := bif_f h42 hM
   refine wl_off (t := 17) (b := false) rfl rfl rfl ?_
   refine wl_off (t := 17) (b := false) rfl rfl rfl ?_
   refine wl_off (t := 17) (b := false) rfl rfl rfl ?_
   refine wl_off (t := 17) (b := false) rfl rfl rfl ?_
   refine wl_off (t := 17) (b := false) rfl rfl rfl ?_
   refine wl_h hS41.toHeld (r_pick_f rfl (v := .bool _) rfl) <| wl_h hS41.toHeld (r_move (v := .bool _) rfl) <| wl_off (t := 24) (b := false) rfl rfl rfl ?_
   refine wl_off (t := 24) (b := false) rfl rfl rfl ?_
   refine wl_off (t := 24) (b := false) rfl rfl rfl ?_
   refine wl_off (t := 24) (b := false) rfl rfl rfl ?_
   refine wl_off (t := 24) (b := false) rfl rfl rfl ?_
   refine wl_h hS41.toHeld (r_pick_f rfl (v := .bool _) rfl) <| wl_h hS41.toHeld (r_move (v := .bool _) rfl) <| wl_off (t := 31) (b := false) rfl rfl rfl ?_
   refine wl_off (t := 31) (b := false) rfl rfl rfl ?_
   refine wl_off (t := 31) (b := false) rfl rfl rfl ?_
   refine wl_off (t := 31) (b := false) rfl rfl rfl ?_
   refine wl_off (t := 31) (b := false) rfl rfl rfl ?_
   refine wl_h hS41.toHeld (r_pick_f rfl (v := .bool _) rfl) <| wl_h hS41.toHeld (r_assign (v := .bool _) rfl) <| wl_nil <| c_ret <| ret_tmp (t := 4) rfl (v := .bool _) rfl ?_
   obtain rfl := some_eq hM
   have hS48 := hS41.weaken (.cons _ (.cons _ (.refl _)))
   exact ⟨rfl, hS48⟩
 ·replace hM := bif_f h36 hM
  refine wl_off (t := 10) (b := false) rfl rfl rfl ?_
  refine wl_off (t := 10) (b := false) rfl rfl rfl ?_
  refine wl_off (t := 10) (b := false) rfl rfl rfl ?_
  refine wl_off (t := 10) (b := false) rfl rfl rfl ?_
  refine wl_off (t := 10) (b := false) rfl rfl rfl ?_
  refine wl_h hS35.toHeld (r_pick_f rfl (v := .bool _) rfl) <| wl_h hS35.toHeld (r_move (v := .bool _) rfl) <| wl_off (t := 17) (b := false) rfl rfl rfl ?_
  refine wl_off (t := 17) (b := false) rfl rfl rfl ?_
  refine wl_off (t := 17) (b := false) rfl rfl rfl ?_
  refine wl_off (t := 17) (b := false) rfl rfl rfl ?_
  refine wl_off (t := 17) (b := false) rfl rfl rfl ?_
  refine wl_h hS35.toHeld (r_pick_f rfl (v := .bool _) rfl) <| wl_h hS35.toHeld (r_move (v := .bool _) rfl) <| wl_off (t := 24) (b := false) rfl rfl rfl ?_
  refine wl_off (t := 24) (b := false) rfl rfl rfl ?_
  refine wl_off (t := 24) (b := false) rfl rfl rfl ?_
  refine wl_off (t := 24) (b := false) rfl rfl rfl ?_
  refine wl_off (t := 24) (b := false) rfl rfl rfl ?_
  refine wl_h hS35.toHeld (r_pick_f rfl (v := .bool _) rfl) <| wl_h hS35.toHeld (r_move (v := .bool _) rfl) <| wl_off (t := 31) (b := false) rfl rfl rfl ?_
  refine wl_off (t := 31) (b := false) rfl rfl rfl ?_
  refine wl_off (t := 31) (b := false) rfl rfl rfl ?_
  refine wl_off (t := 31) (b := false) rfl rfl rfl ?_
  refine wl_off (t := 31) (b := false) rfl rfl rfl ?_
  refine wl_h hS35.toHeld (r_pick_f rfl (v := .bool _) rfl) <| wl_h hS35.toHeld (r_assign (v := .bool _) rfl) <| wl_nil <| c_ret <| ret_tmp (t := 4) rfl (v := .bool _) rfl ?_
  obtain rfl := some_eq hM
  have hS49 := hS35.weaken (.cons _ (.cons _ (.refl _)))
  exact ⟨rfl, hS49⟩

theorem cg7 {m : Mem} {L : List Atom} {w : World} {cs1 : List Value} {f3 : Fleet} {a13 : Option Addr} {n14 c15 : Nat} {stops17 : List Int} (hS : St w m L) (hx2 : RFleet m cs1 f3) (hr16 : RSl 1 RInt m a13 n14 c15 stops17) {fuel : Nat} {r : Bool} (hM : mg7 fuel f3 stops17 = some r) : Calls P0 7 [.agg cs1.toArray, .slice a13 n14 c15].toArray w (Ret fun v w' => v = .bool r ∧ St w' m (L)) := by
 rw [mg7] at hM
 have hk12 := hx2
 obtain ⟨a4, n5, c6, a8, n9, c10, rfl, hr7, hr11⟩ := hx2
 obtain rfl := hr7.1
 obtain rfl := hr11.1
 obtain rfl := hr16.1
 refine enter Tryz.func7 rfl Tryz.ntmps7 (Nat.le_of_ble_eq_true rfl) ?_
 refine c_seq <| c_region <| wl_box hS (v := .agg #[.slice _ _ _, .slice _ _ _, .int .i64 _, .int .i64 _, .int .i64 _]) rfl (cs := [.slice _ _ _, .slice _ _ _, .int .i64 _, .int .i64 _, .int .i64 _]) rfl ?_
 intro b18 w19 hS20
 refine wl_h hS20.toHeld (r_assign (v := .bool _) rfl) <| wl_nil <| c_seq <| c_region <| wl_h hS20.toHeld (r_box ty25 (k := 0) .here rfl rfl rfl (v := .agg #[.slice _ _ _, .slice _ _ _, .int .i64 _, .int .i64 _, .int .i64 _]) rfl) ?_
 obtain ⟨r21, hq22, hM⟩ := bnd_ok hM
 refine wl_call ent15 (vals := [.agg #[.slice _ _ _, .slice _ _ _, .int .i64 _, .int .i64 _, .int .i64 _]]) rfl (cg15 hS20 hk12 hq22) ?_
 rintro _ w49 ⟨m23, a25, n26, c27, cs28, a31, n32, c33, cs34, a37, n38, c39, cs40, a43, n44, c45, cs46, rfl, hm24, rfl, hrc29, rfl, hrc35, rfl, hrc41, rfl, hrc47, hS50⟩
 have le51 := hm24
 replace hk12 := RFleet.mono _ _ _ _ hk12 hm24
 replace hr7 := RSl.mono RStop.mono hr7 hm24
 replace hr11 := RSl.mono (RS.mono RInt.mono) hr11 hm24
 replace hr16 := RSl.mono RInt.mono hr16 hm24
 refine wl_h hS50.toHeld (r_move (v := .tuple #[.agg #[.slice _ _ _, .slice _ _ _, .int .i64 _, .int .i64 _, .int .i64 _], .agg #[.slice _ _ _, .slice _ _ _, .int .i64 _, .int .i64 _, .int .i64 _]]) rfl) <| wl_h hS50.toHeld (r_extract (vs := [.agg #[.slice _ _ _, .slice _ _ _, .int .i64 _, .int .i64 _, .int .i64 _], .agg #[.slice _ _ _, .slice _ _ _, .int .i64 _, .int .i64 _, .int .i64 _]]) rfl (v := .agg #[.slice _ _ _, .slice _ _ _, .int .i64 _, .int .i64 _, .int .i64 _]) rfl) <| wl_h hS50.toHeld (r_extract (vs := [.agg #[.slice _ _ _, .slice _ _ _, .int .i64 _, .int .i64 _, .int .i64 _], .agg #[.slice _ _ _, .slice _ _ _, .int .i64 _, .int .i64 _, .int .i64 _]]) rfl (v := .agg #[.slice _ _ _, .slice _ _ _, .int .i64 _, .int .i64 _, .int .i64 _]) rfl) <| wl_alloc ty25 rfl hS50 ?_
 intro b52 w53 hS54
 refine wl_alloc ty53 rfl hS54 ?_
 intro b55 w56 hS57
 refine wl_store_box ty25 hS57 rfl (v := .agg #[.slice _ _ _, .slice _ _ _, .int .i64 _, .int .i64 _, .int .i64 _]) rfl (vs := [.slice _ _ _, .slice _ _ _, .int .i64 _, .int .i64 _, .int .i64 _]) rfl rfl rfl (.there .here) (cs' := [.slice _ _ _, .slice _ _ _, .int .i64 _, .int .i64 _, .int .i64 _]) rfl rfl ?_
 intro w58 hS59
 refine wl_store_box ty53 hS59 rfl (v := .agg #[.slice _ _ _, .slice _ _ _, .int .i64 _, .int .i64 _, .int .i64 _]) rfl (vs := [.slice _ _ _, .slice _ _ _, .int .i64 _, .int .i64 _, .int .i64 _]) rfl rfl rfl .here (cs' := [.slice _ _ _, .slice _ _ _, .int .i64 _, .int .i64 _, .int .i64 _]) rfl rfl ?_
 intro w60 hS61
 refine wl_nil <| c_seq <| c_region <| wl_h hS61.toHeld (r_move (v := .slice _ _ _) rfl) ?_
 obtain ⟨r62, hq63, hM⟩ := bnd_ok hM
 refine wl_call ent17 (vals := [.slice _ _ _]) rfl (cg17 hS61 hr16 hq63) ?_
 rintro _ w71 ⟨a65, n66, c67, cs68, rfl, rfl, hrc69, hS72⟩
 refine wl_h hS72.toHeld (r_assign (v := .slice _ _ _) rfl) <| wl_nil <| c_seq <| c_seq ?_
 have hH147 := (hS72.weaken (.cons_cons _ (.cons_cons _ (.cons_cons _ (.cons_cons _ (.cons_cons _ (.cons_cons _ (.cons_cons _ (.cons_cons _ (.refl _)))))))))).toHeld
 refine c_draw (k := 5) (fun w => Held w m23 (.row (.slice a65 r62.length c67) 3 1 cs68 :: .box b55 53 [.slice a37 r21.2.stops.length c39, .slice a43 r21.2.minutes.length c45, .int .i64 r21.2.cap, .int .i64 r21.2.start, .int .i64 r21.2.back] :: .box b52 25 [.slice a25 r21.1.stops.length c27, .slice a31 r21.1.minutes.length c33, .int .i64 r21.1.cap, .int .i64 r21.1.start, .int .i64 r21.1.back] :: .row (.slice a25 r21.1.stops.length c27) 34 5 cs28 :: .row (.slice a31 r21.1.minutes.length c33) 26 1 cs34 :: .row (.slice a37 r21.2.stops.length c39) 120 5 cs40 :: .row (.slice a43 r21.2.minutes.length c45) 26 1 cs46 :: .box b18 25 [.slice a4 f3.stops.length c6, .slice a8 f3.minutes.length c10, .int .i64 f3.cap, .int .i64 f3.start, .int .i64 f3.back] :: L)) mixed rfl ?_
 replace hH147 := hH147.drew1
 have hS148 := hS72.drew1
 refine d_v (i := 0) rfl (by kernel_rfl) rfl (r_box ty25 (k := 0) (.there (.there .here)) rfl rfl rfl (v := .agg #[.slice _ _ _, .slice _ _ _, .int .i64 _, .int .i64 _, .int .i64 _]) rfl) hH147 ?_
 refine d_v (i := 2) rfl (by kernel_rfl) rfl (r_box ty53 (k := 0) (.there .here) rfl rfl rfl (v := .agg #[.slice _ _ _, .slice _ _ _, .int .i64 _, .int .i64 _, .int .i64 _]) rfl) hH147 ?_
 refine d_all (rs := [1]) (by kernel_rfl) (by simp) (fun j hj o ho => ?_)
 obtain rfl : j = 1 := by simpa using hj
 cases ho
 obtain ⟨m149, hm150, hS151, hr152, back153⟩ := hS148.lend (.there (.there (.there .here))) hrc29 RStop.mono (by decide)
 have le154 := hm150
 have hrc155 := RCs.mono RInt.mono hrc69 hm150
 have hrc156 := RCs.mono (RS.mono RInt.mono) hrc35 hm150
 have hrc157 := RCs.mono RStop.mono hrc41 hm150
 have hrc158 := RCs.mono (RS.mono RInt.mono) hrc47 hm150
 obtain ⟨m159, hm160, hS161, hr162, back163⟩ := hS151.lend (.there (.there (.there .here))) hrc156 (RS.mono RInt.mono) (by decide)
 have le164 := Mem.le_trans le154 hm160
 have hr165 := RSl.mono RStop.mono hr152 hm160
 have hrc166 := RCs.mono RInt.mono hrc155 hm160
 have hrc167 := RCs.mono RStop.mono hrc157 hm160
 have hrc168 := RCs.mono (RS.mono RInt.mono) hrc158 hm160
 obtain ⟨r169, hq170, hM⟩ := bnd_ok hM
 refine wl_call ent18 (vals := [.agg #[.slice _ _ _, .slice _ _ _, .int .i64 _, .int .i64 _, .int .i64 _]]) rfl (cg18 hS161 ⟨_, _, _, _, _, _, rfl, hr165, hr162⟩ hq170) ?_
 rintro _ w172 ⟨rfl, hS173⟩
 have hS174 := back163 _ _ hS173
 have hS175 := back153 _ _ hS174
 refine wl_nil ?_
 have hS177 := hS175.front (.there (.there (.there (.there (.there (.there (.there .here)))))))
 have hS178 := hS177.front (.there (.there (.there (.there (.there (.there (.there .here)))))))
 have hS179 := hS178.front (.there (.there (.there (.there (.there (.there (.there .here)))))))
 have hS180 := hS179.front (.there (.there (.there (.there .here))))
 have hS181 := hS180.front (.there (.there (.there (.there .here))))
 have hS182 := hS181.front (.there (.there (.there (.there (.there (.there (.there .here)))))))
 have hS183 := hS182.front (.there (.there (.there (.there (.there (.there (.there .here)))))))
 have hS184 := hS183.front (.there (.there (.there (.there (.there (.there (.there .here)))))))
 have hH176 := hS184.toHeld.mono (Mem.le_refl _) (List.Sublist.subset (.cons_cons _ (.cons_cons _ (.cons_cons _ (.cons_cons _ (.cons_cons _ (.cons_cons _ (.cons_cons _ (.cons_cons _ (.refl _))))))))))
 refine ⟨hH176, ?_⟩
 refine d_all (rs := [3]) (by kernel_rfl) (by simp) (fun j hj o ho => ?_)
 obtain rfl : j = 3 := by simpa using hj
 cases ho
 obtain ⟨m185, hm186, hS187, hr188, back189⟩ := hS184.lend (.there (.there (.there (.there (.there .here))))) hrc41 RStop.mono (by decide)
 have le190 := hm186
 have hrc191 := RCs.mono RInt.mono hrc69 hm186
 have hrc192 := RCs.mono RStop.mono hrc29 hm186
 have hrc193 := RCs.mono (RS.mono RInt.mono) hrc35 hm186
 have hrc194 := RCs.mono (RS.mono RInt.mono) hrc47 hm186
 obtain ⟨m195, hm196, hS197, hr198, back199⟩ := hS187.lend (.there (.there (.there (.there (.there .here))))) hrc194 (RS.mono RInt.mono) (by decide)
 have le200 := Mem.le_trans le190 hm196
 have hr201 := RSl.mono RStop.mono hr188 hm196
 have hrc202 := RCs.mono RInt.mono hrc191 hm196
 have hrc203 := RCs.mono RStop.mono hrc192 hm196
 have hrc204 := RCs.mono (RS.mono RInt.mono) hrc193 hm196
 obtain ⟨r205, hq206, hM⟩ := bnd_ok hM
 refine wl_call ent19 (vals := [.agg #[.slice _ _ _, .slice _ _ _, .int .i64 _, .int .i64 _, .int .i64 _]]) rfl (cg19 hS197 ⟨_, _, _, _, _, _, rfl, hr201, hr198⟩ hq206) ?_
 rintro _ w208 ⟨rfl, hS209⟩
 have hS210 := back199 _ _ hS209
 have hS211 := back189 _ _ hS210
 refine wl_nil ?_
 have hS213 := hS211.front (.there (.there (.there (.there (.there (.there (.there .here)))))))
 have hS214 := hS213.front (.there (.there .here))
 have hS215 := hS214.front (.there (.there .here))
 have hS216 := hS215.front (.there (.there (.there (.there (.there (.there (.there .here)))))))
 have hS217 := hS216.front (.there (.there (.there (.there (.there (.there (.there .here)))))))
 have hS218 := hS217.front (.there (.there (.there (.there (.there (.there (.there .here)))))))
 have hS219 := hS218.front (.there (.there (.there (.there (.there (.there (.there .here)))))))
 have hS220 := hS219.front (.there (.there (.there (.there (.there (.there (.there .here)))))))
 have hH212 := hS220.toHeld.mono (Mem.le_refl _) (List.Sublist.subset (.cons_cons _ (.cons_cons _ (.cons_cons _ (.cons_cons _ (.cons_cons _ (.cons_cons _ (.cons_cons _ (.cons_cons _ (.refl _))))))))))
 refine ⟨hH212, ?_⟩
 refine d_v (i := 4) rfl (by kernel_rfl) rfl (r_neq (a := _) (b := _) rfl rfl) hH212 ?_
 refine d_end (by kernel_rfl) ?_
 refine c_cond (c := _) rfl (fun h221 => ?_) (fun h221 => ?_)
 ·replace hM := bif_t h221 hM
  refine c_seq <| c_region <| wl_h hS220.toHeld (r_assign (v := .bool _) rfl) <| wl_nil <| c_ret <| ret_tmp (t := 4) rfl (v := .bool _) rfl ?_
  obtain rfl := some_eq hM
  have hS222 := hS220.weaken (.cons _ (.cons _ (.cons _ (.cons _ (.cons _ (.cons _ (.cons _ (.cons _ (.refl _)))))))))
  exact ⟨rfl, (St.back hS222 le51)⟩
 ·replace hM := bif_f h221 hM
  refine c_skip <| c_seq <| c_region <| wl_h hS220.toHeld (r_box ty25 (k := 0) (.there (.there .here)) rfl rfl rfl (v := .agg #[.slice _ _ _, .slice _ _ _, .int .i64 _, .int .i64 _, .int .i64 _]) rfl) <| wl_h hS220.toHeld (r_move (v := .slice _ _ _) rfl) ?_
  obtain ⟨m223, hm224, hS225, hr226, back227⟩ := hS220.lend (.there (.there (.there .here))) hrc29 RStop.mono (by decide)
  have le228 := hm224
  have hrc229 := RCs.mono RInt.mono hrc69 hm224
  have hrc230 := RCs.mono (RS.mono RInt.mono) hrc35 hm224
  have hrc231 := RCs.mono RStop.mono hrc41 hm224
  have hrc232 := RCs.mono (RS.mono RInt.mono) hrc47 hm224
  obtain ⟨m233, hm234, hS235, hr236, back237⟩ := hS225.lend (.there (.there (.there .here))) hrc230 (RS.mono RInt.mono) (by decide)
  have le238 := Mem.le_trans le228 hm234
  have hr239 := RSl.mono RStop.mono hr226 hm234
  have hrc240 := RCs.mono RInt.mono hrc229 hm234
  have hrc241 := RCs.mono RStop.mono hrc231 hm234
  have hrc242 := RCs.mono (RS.mono RInt.mono) hrc232 hm234
  obtain ⟨m243, hm244, hS245, hr246, back247⟩ := hS235.lend .here hrc240 RInt.mono (by decide)
  have le248 := Mem.le_trans le238 hm244
  have hr249 := RSl.mono RStop.mono hr239 hm244
  have hr250 := RSl.mono (RS.mono RInt.mono) hr236 hm244
  have hrc251 := RCs.mono RStop.mono hrc241 hm244
  have hrc252 := RCs.mono (RS.mono RInt.mono) hrc242 hm244
  obtain ⟨r253, hq254, hM⟩ := bnd_ok hM
  refine wl_call ent20 (vals := [.agg #[.slice _ _ _, .slice _ _ _, .int .i64 _, .int .i64 _, .int .i64 _], .slice _ _ _]) rfl (cg20 hS245 ⟨_, _, _, _, _, _, rfl, hr249, hr250⟩ hr246 hq254) ?_
  rintro _ w268 ⟨a256, n257, c258, cs259, a262, n263, c264, cs265, rfl, rfl, hrc260, rfl, hrc266, hS269⟩
  have hS270 := back247 _ _ hS269
  have hS271 := back237 _ _ hS270
  have hS272 := back227 _ _ hS271
  have hrc273 := RCs.move (m' := m23) RInt.any hrc260
  have hrc274 := RCs.move (m' := m23) RInt.any hrc266
  refine wl_h hS272.toHeld (r_move (v := .tuple #[.agg #[.slice _ _ _, .int .i64 _, .int .i64 _], .slice _ _ _, .int .i64 _]) rfl) <| wl_h hS272.toHeld (r_extract (vs := [.agg #[.slice _ _ _, .int .i64 _, .int .i64 _], .slice _ _ _, .int .i64 _]) rfl (v := .agg #[.slice _ _ _, .int .i64 _, .int .i64 _]) rfl) <| wl_h hS272.toHeld (r_extract (vs := [.agg #[.slice _ _ _, .int .i64 _, .int .i64 _], .slice _ _ _, .int .i64 _]) rfl (v := .slice _ _ _) rfl) <| wl_h hS272.toHeld (r_extract (vs := [.agg #[.slice _ _ _, .int .i64 _, .int .i64 _], .slice _ _ _, .int .i64 _]) rfl (v := .int .i64 _) rfl) <| wl_alloc ty61 rfl hS272 ?_
  intro b275 w276 hS277
  refine wl_store_box ty61 hS277 rfl (v := .agg #[.slice _ _ _, .int .i64 _, .int .i64 _]) rfl (vs := [.slice _ _ _, .int .i64 _, .int .i64 _]) rfl rfl rfl .here (cs' := [.slice _ _ _, .int .i64 _, .int .i64 _]) rfl rfl ?_
  intro w278 hS279
  refine wl_h hS279.toHeld (r_assign (v := .slice _ _ _) rfl) <| wl_h hS279.toHeld (r_assign (v := .int .i64 _) rfl) <| wl_nil <| c_seq <| c_region <| wl_h hS279.toHeld (r_box ty53 (k := 0) (.there (.there (.there (.there (.there (.there .here)))))) rfl rfl rfl (v := .agg #[.slice _ _ _, .slice _ _ _, .int .i64 _, .int .i64 _, .int .i64 _]) rfl) ?_
  refine wl_h hS279.toHeld (r_move (v := .slice _ _ _) rfl) ?_
  obtain ⟨m280, hm281, hS282, hr283, back284⟩ := hS279.lend (.there (.there (.there (.there (.there (.there (.there (.there .here)))))))) hrc41 RStop.mono (by decide)
  have le285 := hm281
  have hrc286 := RCs.mono RStop.mono hrc29 hm281
  have hrc287 := RCs.mono (RS.mono RInt.mono) hrc35 hm281
  have hrc288 := RCs.mono RInt.mono hrc69 hm281
  have hrc289 := RCs.mono RInt.mono hrc273 hm281
  have hrc290 := RCs.mono RInt.mono hrc274 hm281
  have hrc291 := RCs.mono (RS.mono RInt.mono) hrc47 hm281
  obtain ⟨m292, hm293, hS294, hr295, back296⟩ := hS282.lend (.there (.there (.there (.there (.there (.there (.there (.there .here)))))))) hrc291 (RS.mono RInt.mono) (by decide)
  have le297 := Mem.le_trans le285 hm293
  have hr298 := RSl.mono RStop.mono hr283 hm293
  have hrc299 := RCs.mono RStop.mono hrc286 hm293
  have hrc300 := RCs.mono (RS.mono RInt.mono) hrc287 hm293
  have hrc301 := RCs.mono RInt.mono hrc288 hm293
  have hrc302 := RCs.mono RInt.mono hrc289 hm293
  have hrc303 := RCs.mono RInt.mono hrc290 hm293
  obtain ⟨r304, hq305, hM⟩ := bnd_ok hM
  refine wl_call ent21 (vals := [.agg #[.slice _ _ _, .slice _ _ _, .int .i64 _, .int .i64 _, .int .i64 _], .slice _ _ _]) rfl (cg21 hS294 ⟨_, _, _, _, _, _, rfl, hr298, hr295⟩ (RSl.mono RInt.mono hr16 le297) hq305) ?_
  rintro _ w319 ⟨a307, n308, c309, cs310, a313, n314, c315, cs316, rfl, rfl, hrc311, rfl, hrc317, hS320⟩
  have hS321 := back296 _ _ hS320
  have hS322 := back284 _ _ hS321
  have hrc323 := RCs.move (m' := m23) RInt.any hrc311
  have hrc324 := RCs.move (m' := m23) RInt.any hrc317
  refine wl_h hS322.toHeld (r_move (v := .tuple #[.agg #[.slice _ _ _, .int .i64 _, .int .i64 _], .slice _ _ _, .int .i64 _]) rfl) <| wl_h hS322.toHeld (r_extract (vs := [.agg #[.slice _ _ _, .int .i64 _, .int .i64 _], .slice _ _ _, .int .i64 _]) rfl (v := .agg #[.slice _ _ _, .int .i64 _, .int .i64 _]) rfl) <| wl_h hS322.toHeld (r_extract (vs := [.agg #[.slice _ _ _, .int .i64 _, .int .i64 _], .slice _ _ _, .int .i64 _]) rfl (v := .slice _ _ _) rfl) <| wl_h hS322.toHeld (r_extract (vs := [.agg #[.slice _ _ _, .int .i64 _, .int .i64 _], .slice _ _ _, .int .i64 _]) rfl (v := .int .i64 _) rfl) <| wl_alloc ty64 rfl hS322 ?_
  intro b325 w326 hS327
  refine wl_store_box ty64 hS327 rfl (v := .agg #[.slice _ _ _, .int .i64 _, .int .i64 _]) rfl (vs := [.slice _ _ _, .int .i64 _, .int .i64 _]) rfl rfl rfl .here (cs' := [.slice _ _ _, .int .i64 _, .int .i64 _]) rfl rfl ?_
  intro w328 hS329
  refine wl_h hS329.toHeld (r_assign (v := .slice _ _ _) rfl) <| wl_h hS329.toHeld (r_assign (v := .int .i64 _) rfl) <| wl_nil <| c_seq <| c_seq <| c_region <| wl_h hS329.toHeld (r_box ty61 (k := 0) (.there (.there (.there (.there (.there .here))))) rfl rfl rfl (v := .agg #[.slice _ _ _, .int .i64 _, .int .i64 _]) rfl) ?_
  refine wl_h hS329.toHeld (r_box ty64 (k := 0) .here rfl rfl rfl (v := .agg #[.slice _ _ _, .int .i64 _, .int .i64 _]) rfl) ?_
  obtain ⟨m330, hm331, hS332, hr333, back334⟩ := hS329.lend (.there (.there (.there (.there (.there (.there (.there (.there (.there .here))))))))) hrc273 RInt.mono (by decide)
  have le335 := hm331
  have hrc336 := RCs.mono RStop.mono hrc41 hm331
  have hrc337 := RCs.mono (RS.mono RInt.mono) hrc47 hm331
  have hrc338 := RCs.mono RInt.mono hrc323 hm331
  have hrc339 := RCs.mono RInt.mono hrc324 hm331
  have hrc340 := RCs.mono RStop.mono hrc29 hm331
  have hrc341 := RCs.mono (RS.mono RInt.mono) hrc35 hm331
  have hrc342 := RCs.mono RInt.mono hrc69 hm331
  have hrc343 := RCs.mono RInt.mono hrc274 hm331
  obtain ⟨m344, hm345, hS346, hr347, back348⟩ := hS332.lend (.there (.there (.there .here))) hrc338 RInt.mono (by decide)
  have le349 := Mem.le_trans le335 hm345
  have hr350 := RSl.mono RInt.mono hr333 hm345
  have hrc351 := RCs.mono RStop.mono hrc336 hm345
  have hrc352 := RCs.mono (RS.mono RInt.mono) hrc337 hm345
  have hrc353 := RCs.mono RInt.mono hrc339 hm345
  have hrc354 := RCs.mono RStop.mono hrc340 hm345
  have hrc355 := RCs.mono (RS.mono RInt.mono) hrc341 hm345
  have hrc356 := RCs.mono RInt.mono hrc342 hm345
  have hrc357 := RCs.mono RInt.mono hrc343 hm345
  obtain ⟨r358, hq359, hM⟩ := bnd_ok hM
  refine wl_call ent22 (vals := [.agg #[.slice _ _ _, .int .i64 _, .int .i64 _], .agg #[.slice _ _ _, .int .i64 _, .int .i64 _]]) rfl (cg22 hS346 ⟨_, _, _, rfl, hr350⟩ ⟨_, _, _, rfl, hr347⟩ hq359) ?_
  rintro _ w361 ⟨rfl, hS362⟩
  have hS363 := back348 _ _ hS362
  have hS364 := back334 _ _ hS363
  refine wl_h hS364.toHeld (r_not (b := _) rfl) <| wl_h hS364.toHeld (r_move (v := .bool _) rfl) <| wl_split rfl (c := _) (t := 47) (fun h365 => ?_) (fun h365 => ?_)
  ·replace hM := bif_t h365 hM
   refine wl_off (t := 47) (b := true) rfl rfl rfl ?_
   refine wl_off (t := 47) (b := true) rfl rfl rfl ?_
   refine wl_off (t := 47) (b := true) rfl rfl rfl ?_
   refine wl_off (t := 47) (b := true) rfl rfl rfl ?_
   refine wl_h hS364.toHeld (r_pick_t rfl (v := .bool _) rfl) <| wl_h hS364.toHeld (r_move (v := .bool _) rfl) <| wl_off (t := 53) (b := true) rfl rfl rfl ?_
   refine wl_off (t := 53) (b := true) rfl rfl rfl ?_
   refine wl_off (t := 53) (b := true) rfl rfl rfl ?_
   refine wl_h hS364.toHeld (r_pick_t rfl (v := .bool _) rfl) <| wl_nil <| c_true rfl <| c_seq <| c_region <| wl_h hS364.toHeld (r_assign (v := .bool _) rfl) ?_
   refine wl_nil <| c_ret <| ret_tmp (t := 4) rfl (v := .bool _) rfl ?_
   obtain rfl := some_eq hM
   have hS366 := hS364.weaken (.cons _ (.cons _ (.cons _ (.cons _ (.cons _ (.cons _ (.cons _ (.cons _ (.cons _ (.cons _ (.cons _ (.cons _ (.cons _ (.cons _ (.refl _)))))))))))))))
   exact ⟨rfl, (St.back hS366 le51)⟩
  ·replace hM := bif_f h365 hM
   refine wl_on (t := 47) rfl rfl ?_
   refine wl_h hS364.toHeld (r_move (v := .slice _ _ _) rfl) <| wl_on (t := 47) rfl rfl ?_
   refine wl_h hS364.toHeld (r_move (v := .slice _ _ _) rfl) <| wl_on (t := 47) rfl rfl ?_
   obtain ⟨m367, hm368, hS369, hr370, back371⟩ := hS364.lend (.there (.there (.there (.there (.there (.there (.there (.there (.there (.there .here)))))))))) hrc274 RInt.mono (by decide)
   have le372 := hm368
   have hrc373 := RCs.mono RInt.mono hrc273 hm368
   have hrc374 := RCs.mono RInt.mono hrc323 hm368
   have hrc375 := RCs.mono RStop.mono hrc41 hm368
   have hrc376 := RCs.mono (RS.mono RInt.mono) hrc47 hm368
   have hrc377 := RCs.mono RInt.mono hrc324 hm368
   have hrc378 := RCs.mono RStop.mono hrc29 hm368
   have hrc379 := RCs.mono (RS.mono RInt.mono) hrc35 hm368
   have hrc380 := RCs.mono RInt.mono hrc69 hm368
   obtain ⟨m381, hm382, hS383, hr384, back385⟩ := hS369.lend (.there (.there (.there (.there (.there .here))))) hrc377 RInt.mono (by decide)
   have le386 := Mem.le_trans le372 hm382
   have hr387 := RSl.mono RInt.mono hr370 hm382
   have hrc388 := RCs.mono RInt.mono hrc373 hm382
   have hrc389 := RCs.mono RInt.mono hrc374 hm382
   have hrc390 := RCs.mono RStop.mono hrc375 hm382
   have hrc391 := RCs.mono (RS.mono RInt.mono) hrc376 hm382
   have hrc392 := RCs.mono RStop.mono hrc378 hm382
   have hrc393 := RCs.mono (RS.mono RInt.mono) hrc379 hm382
   have hrc394 := RCs.mono RInt.mono hrc380 hm382
   obtain ⟨r395, hq396, hM⟩ := bnd_ok hM
   refine wl_call ent23 (vals := [.slice _ _ _, .slice _ _ _]) rfl (cg23 hS383 hr387 hr384 hq396) ?_
   rintro _ w398 ⟨rfl, hS399⟩
   have hS400 := back385 _ _ hS399
   have hS401 := back371 _ _ hS400
   refine wl_on (t := 47) rfl rfl ?_
   refine wl_h hS401.toHeld (r_not (b := _) rfl) <| wl_h hS401.toHeld (r_pick_f rfl (v := .bool _) rfl) <| wl_h hS401.toHeld (r_move (v := .bool _) rfl) <| wl_split rfl (c := _) (t := 53) (fun h402 => ?_) (fun h402 => ?_)
   ·replace hM := bif_t h402 hM
    refine wl_off (t := 53) (b := true) rfl rfl rfl ?_
    refine wl_off (t := 53) (b := true) rfl rfl rfl ?_
    refine wl_off (t := 53) (b := true) rfl rfl rfl ?_
    refine wl_h hS401.toHeld (r_pick_t rfl (v := .bool _) rfl) <| wl_nil <| c_true rfl <| c_seq <| c_region <| wl_h hS401.toHeld (r_assign (v := .bool _) rfl) ?_
    refine wl_nil <| c_ret <| ret_tmp (t := 4) rfl (v := .bool _) rfl ?_
    obtain rfl := some_eq hM
    have hS403 := hS401.weaken (.cons _ (.cons _ (.cons _ (.cons _ (.cons _ (.cons _ (.cons _ (.cons _ (.cons _ (.cons _ (.cons _ (.cons _ (.cons _ (.cons _ (.refl _)))))))))))))))
    exact ⟨rfl, (St.back hS403 le51)⟩
   ·replace hM := bif_f h402 hM
    refine wl_on (t := 53) rfl rfl ?_
    refine wl_h hS401.toHeld (r_move (v := .int .i64 _) rfl) <| wl_on (t := 53) rfl rfl ?_
    refine wl_h hS401.toHeld (r_move (v := .int .i64 _) rfl) <| wl_on (t := 53) rfl rfl ?_
    refine wl_h hS401.toHeld (r_neq (a := _) (b := _) rfl rfl) <| wl_h hS401.toHeld (r_pick_f rfl (v := .bool _) rfl) <| wl_nil <| c_cond (c := _) rfl (fun h404 => ?_) (fun h404 => ?_)
    ·replace hM := bif_t h404 hM
     refine c_seq <| c_region <| wl_h hS401.toHeld (r_assign (v := .bool _) rfl) <| wl_nil <| c_ret <| ret_tmp (t := 4) rfl (v := .bool _) rfl ?_
     obtain rfl := some_eq hM
     have hS405 := hS401.weaken (.cons _ (.cons _ (.cons _ (.cons _ (.cons _ (.cons _ (.cons _ (.cons _ (.cons _ (.cons _ (.cons _ (.cons _ (.cons _ (.cons _ (.refl _)))))))))))))))
     exact ⟨rfl, (St.back hS405 le51)⟩
    ·replace hM := bif_f h404 hM
     refine c_skip <| c_seq <| c_seq <| c_region <| wl_h hS401.toHeld (r_fieldAddr fld61_0 (b := _) (o := _) rfl) ?_
     refine wl_h hS401.toHeld (r_box ty26 (k := 0) (.there (.there (.there (.there (.there (.there (.there .here))))))) rfl rfl rfl (v := .slice _ _ _) rfl) <| wl_h hS401.toHeld (r_len Tryz.underlying26 (a := _) (n := _) (c := _) rfl) <| wl_h hS401.toHeld (r_move (v := .int .i64 _) rfl) <| wl_nil <| c_block ?_
     have hS406 := hS401.weaken (.cons _ (.cons _ (.cons_cons _ (.cons_cons _ (.cons_cons _ (.cons_cons _ (.cons_cons _ (.cons_cons _ (.cons_cons _ (.cons_cons _ (.cons_cons _ (.cons_cons _ (.cons_cons _ (.cons_cons _ (.refl _)))))))))))))))
     refine c_loop (fun k f w => ∃ (x642 : Int) (l643 : List Int) (a644 : Option Addr) (n645 : Nat) (c646 : Nat) (cs647 : List Value), mg7_l0 fuel f3 stops17 r21 r62 r253 k x642 l643 = some r ∧ n645 = l643.length ∧ RCs 1 RInt m23 cs647 l643 ∧ St w m23 (.row (.slice a644 n645 c646) 3 1 cs647 :: .row (.slice a307 r304.1.stops.length c309) 3 1 cs310 :: .box b325 64 [.slice a307 r304.1.stops.length c309, .int .i64 r304.1.leave, .int .i64 r304.1.fin] :: .row (.slice a37 r21.2.stops.length c39) 120 5 cs40 :: .row (.slice a43 r21.2.minutes.length c45) 26 1 cs46 :: .box b275 61 [.slice a644 n645 c646, .int .i64 r253.1.leave, .int .i64 r253.1.fin] :: .row (.slice a25 r21.1.stops.length c27) 34 5 cs28 :: .row (.slice a31 r21.1.minutes.length c33) 26 1 cs34 :: .row (.slice a65 r62.length c67) 3 1 cs68 :: .box b55 53 [.slice a37 r21.2.stops.length c39, .slice a43 r21.2.minutes.length c45, .int .i64 r21.2.cap, .int .i64 r21.2.start, .int .i64 r21.2.back] :: .box b52 25 [.slice a25 r21.1.stops.length c27, .slice a31 r21.1.minutes.length c33, .int .i64 r21.1.cap, .int .i64 r21.1.start, .int .i64 r21.1.back] :: .box b18 25 [.slice a4 f3.stops.length c6, .slice a8 f3.minutes.length c10, .int .i64 f3.cap, .int .i64 f3.start, .int .i64 f3.back] :: L) ∧ f 1 = .slice a13 stops17.length c15 ∧ f 2 = .pointer (some ⟨b18, 0, none⟩) ∧ f 5 = .pointer (some ⟨b52, 0, none⟩) ∧ f 6 = .pointer (some ⟨b55, 0, none⟩) ∧ f 7 = .slice a65 r62.length c67 ∧ f 8 = .pointer (some ⟨b275, 0, none⟩) ∧ f 11 = .pointer (some ⟨b325, 0, none⟩) ∧ f 60 = .int .i64 ((r253.1.stops.length : Nat) : Int) ∧ f 61 = .int .i64 x642) fuel ⟨0, r253.1.stops, a256, r253.1.stops.length, c258, cs259, hM, row_n (hS406.toHeld.own .here) hrc273 (by decide), hrc273, hS406, rfl, rfl, rfl, rfl, rfl, rfl, rfl, rfl, rfl⟩ ?_
     rintro k_0 f650 w651 ⟨x642, l643, a644, n645, c646, cs647, hM, hn648, hrc649, hS653, e654, e655, e656, e657, e658, e659, e660, e661, e662⟩
     subst hn648
     refine c_know (t := 1) e654 <| c_know (t := 2) e655 <| c_know (t := 5) e656 <| c_know (t := 6) e657 <| c_know (t := 7) e658 ?_
     refine c_know (t := 8) e659 <| c_know (t := 11) e660 <| c_know (t := 60) e661 <| c_know (t := 61) e662 ?_
     clear e654 e655 e656 e657 e658 e659 e660 e661 e662
     rcases k_0 with _ | k_0
     · exact none_ne hM
     rw [mg7_l0] at hM
     refine c_seq <| c_region <| wl_h hS653.toHeld (r_lss (a := _) (b := _) rfl rfl) <| wl_nil <| c_seq <| c_cond (c := _) rfl (fun h663 => ?_) (fun h663 => ?_)
     ·replace hM := bif_t h663 hM
      refine c_skip <| c_seq <| c_block <| c_seq <| c_region <| wl_h hS653.toHeld (r_move (v := .int .i64 _) rfl) ?_
      refine wl_h hS653.toHeld (r_assign (v := .int .i64 _) rfl) <| wl_nil <| c_region <| wl_h hS653.toHeld (r_fieldAddr fld61_0 (b := _) (o := _) rfl) <| wl_h hS653.toHeld (r_box ty26 (k := 0) (.there (.there (.there (.there (.there .here))))) rfl rfl rfl (v := .slice _ _ _) rfl) ?_
      refine wl_h hS653.toHeld (r_move (v := .int .i64 _) rfl) ?_
      obtain ⟨x664, hx665, h666, h667, hM⟩ := getK_ok hM
      obtain ⟨b668, rfl⟩ := row_some (hS653.toHeld.own .here) hrc649 (by decide) h666 h667
      obtain ⟨es669, hes670, hR671⟩ := row_read hrc649 hx665
      obtain rfl := hR671
      refine wl_h hS653.toHeld (r_indexAddr Tryz.underlying26 ty3 (b := _) (o := _) (n := _) (c := _) (i := x642) rfl rfl h666 (row_lt (hS653.toHeld.own .here) hrc649 (by decide) h667)) <| wl_store_row ty3 hS653 rfl (v := .int .i64 _) rfl (vs := [.int .i64 _]) rfl rfl rfl .here (Nat.le_trans (by simp only [Nat.zero_add]; omega) (row_room hrc649 hx665)) ?_
      intro w672 hS673
      have hrc674 := RCs.seti hrc649 hx665 (vs := [.int .i64 9]) (y := 9) rfl rfl
      generalize spl cs647 (0 + x642.toNat * 1) [.int .i64 9] = cs675 at hS673 hrc674
      refine wl_nil <| c_nil <| q_norm <| c_region ?_
      obtain ⟨hc676, hM⟩ := chk_ok hM
      refine wl_h hS673.toHeld (r_add (a := _) (b := _) rfl rfl (ok_lo hc676) (ok_hi hc676)) <| wl_h hS673.toHeld (r_move (v := .int .i64 _) rfl) <| wl_nil <| c_nil <| q_loop ?_
      exact ⟨k_0, Nat.lt_succ_self _, x642 + 1, (l643.set x642.toNat 9), (some ⟨b668, 0, none⟩), l643.length, c646, cs675, hM, row_n (hS673.toHeld.own .here) hrc674 (by decide), hrc674, hS673, rfl, rfl, rfl, rfl, rfl, rfl, rfl, rfl, rfl⟩
     ·replace hM := bif_f h663 hM
      refine c_exit <| q_loopx <| q_hit <| c_seq <| c_region <| wl_h hS653.toHeld (r_box ty25 (k := 0) (.there (.there (.there (.there (.there (.there (.there (.there (.there (.there .here)))))))))) rfl rfl rfl (v := .agg #[.slice _ _ _, .slice _ _ _, .int .i64 _, .int .i64 _, .int .i64 _]) rfl) ?_
      refine wl_h hS653.toHeld (r_move (v := .slice _ _ _) rfl) ?_
      obtain ⟨m677, hm678, hS679, hr680⟩ := hS653.freezeR (.there (.there (.there (.there (.there (.there .here)))))) hrc29 RStop.mono (by decide)
      have le682 := Mem.le_trans le51 hm678
      have le683 := hm678
      replace hk12 := RFleet.mono _ _ _ _ hk12 hm678
      replace hr7 := RSl.mono RStop.mono hr7 hm678
      replace hr11 := RSl.mono (RS.mono RInt.mono) hr11 hm678
      replace hr16 := RSl.mono RInt.mono hr16 hm678
      replace hrc29 := RCs.mono RStop.mono hrc29 hm678
      replace hrc35 := RCs.mono (RS.mono RInt.mono) hrc35 hm678
      replace hrc41 := RCs.mono RStop.mono hrc41 hm678
      replace hrc47 := RCs.mono (RS.mono RInt.mono) hrc47 hm678
      replace hrc69 := RCs.mono RInt.mono hrc69 hm678
      replace hrc273 := RCs.mono RInt.mono hrc273 hm678
      replace hrc274 := RCs.mono RInt.mono hrc274 hm678
      replace hrc323 := RCs.mono RInt.mono hrc323 hm678
      replace hrc324 := RCs.mono RInt.mono hrc324 hm678
      replace hrc649 := RCs.mono RInt.mono hrc649 hm678
      obtain ⟨m684, hm685, hS686, hr687⟩ := hS679.freezeR (.there (.there (.there (.there (.there (.there .here)))))) hrc35 (RS.mono RInt.mono) (by decide)
      have le689 := Mem.le_trans le682 hm685
      have le690 := Mem.le_trans le683 hm685
      replace hk12 := RFleet.mono _ _ _ _ hk12 hm685
      replace hr7 := RSl.mono RStop.mono hr7 hm685
      replace hr11 := RSl.mono (RS.mono RInt.mono) hr11 hm685
      replace hr16 := RSl.mono RInt.mono hr16 hm685
      replace hrc29 := RCs.mono RStop.mono hrc29 hm685
      replace hrc35 := RCs.mono (RS.mono RInt.mono) hrc35 hm685
      replace hrc41 := RCs.mono RStop.mono hrc41 hm685
      replace hrc47 := RCs.mono (RS.mono RInt.mono) hrc47 hm685
      replace hrc69 := RCs.mono RInt.mono hrc69 hm685
      replace hrc273 := RCs.mono RInt.mono hrc273 hm685
      replace hrc274 := RCs.mono RInt.mono hrc274 hm685
      replace hrc323 := RCs.mono RInt.mono hrc323 hm685
      replace hrc324 := RCs.mono RInt.mono hrc324 hm685
      replace hrc649 := RCs.mono RInt.mono hrc649 hm685
      replace hr680 := RSl.mono RStop.mono hr680 hm685
      obtain ⟨m691, hm692, hS693, hr694⟩ := hS686.freezeR (.there (.there (.there (.there (.there (.there .here)))))) hrc69 RInt.mono (by decide)
      have le696 := Mem.le_trans le689 hm692
      have le697 := Mem.le_trans le690 hm692
      replace hk12 := RFleet.mono _ _ _ _ hk12 hm692
      replace hr7 := RSl.mono RStop.mono hr7 hm692
      replace hr11 := RSl.mono (RS.mono RInt.mono) hr11 hm692
      replace hr16 := RSl.mono RInt.mono hr16 hm692
      replace hrc29 := RCs.mono RStop.mono hrc29 hm692
      replace hrc35 := RCs.mono (RS.mono RInt.mono) hrc35 hm692
      replace hrc41 := RCs.mono RStop.mono hrc41 hm692
      replace hrc47 := RCs.mono (RS.mono RInt.mono) hrc47 hm692
      replace hrc69 := RCs.mono RInt.mono hrc69 hm692
      replace hrc273 := RCs.mono RInt.mono hrc273 hm692
      replace hrc274 := RCs.mono RInt.mono hrc274 hm692
      replace hrc323 := RCs.mono RInt.mono hrc323 hm692
      replace hrc324 := RCs.mono RInt.mono hrc324 hm692
      replace hrc649 := RCs.mono RInt.mono hrc649 hm692
      replace hr680 := RSl.mono RStop.mono hr680 hm692
      replace hr687 := RSl.mono (RS.mono RInt.mono) hr687 hm692
      obtain ⟨r698, hq699, hM⟩ := bnd_ok hM
      refine wl_call ent24 (vals := [.agg #[.slice _ _ _, .slice _ _ _, .int .i64 _, .int .i64 _, .int .i64 _], .slice _ _ _]) rfl (cg24 hS693 ⟨_, _, _, _, _, _, rfl, hr680, hr687⟩ hr694 hq699) ?_
      rintro _ w706 ⟨m700, a702, n703, c704, rfl, hm701, hr705, hS707⟩
      obtain rfl := hr705.1
      have le708 := Mem.le_trans le696 hm701
      have le709 := Mem.le_trans le697 hm701
      replace hk12 := RFleet.mono _ _ _ _ hk12 hm701
      replace hr7 := RSl.mono RStop.mono hr7 hm701
      replace hr11 := RSl.mono (RS.mono RInt.mono) hr11 hm701
      replace hr16 := RSl.mono RInt.mono hr16 hm701
      replace hrc29 := RCs.mono RStop.mono hrc29 hm701
      replace hrc35 := RCs.mono (RS.mono RInt.mono) hrc35 hm701
      replace hrc41 := RCs.mono RStop.mono hrc41 hm701
      replace hrc47 := RCs.mono (RS.mono RInt.mono) hrc47 hm701
      replace hrc69 := RCs.mono RInt.mono hrc69 hm701
      replace hrc273 := RCs.mono RInt.mono hrc273 hm701
      replace hrc274 := RCs.mono RInt.mono hrc274 hm701
      replace hrc323 := RCs.mono RInt.mono hrc323 hm701
      replace hrc324 := RCs.mono RInt.mono hrc324 hm701
      replace hrc649 := RCs.mono RInt.mono hrc649 hm701
      replace hr680 := RSl.mono RStop.mono hr680 hm701
      replace hr687 := RSl.mono (RS.mono RInt.mono) hr687 hm701
      replace hr694 := RSl.mono RInt.mono hr694 hm701
      refine wl_h hS707.toHeld (r_move (v := .tuple #[.agg #[.slice _ _ _, .int .i64 _, .int .i64 _], .int .i64 _]) rfl) <| wl_h hS707.toHeld (r_extract (vs := [.agg #[.slice _ _ _, .int .i64 _, .int .i64 _], .int .i64 _]) rfl (v := .agg #[.slice _ _ _, .int .i64 _, .int .i64 _]) rfl) <| wl_h hS707.toHeld (r_extract (vs := [.agg #[.slice _ _ _, .int .i64 _, .int .i64 _], .int .i64 _]) rfl (v := .int .i64 _) rfl) <| wl_store_box ty61 hS707 rfl (v := .agg #[.slice _ _ _, .int .i64 _, .int .i64 _]) rfl (vs := [.slice _ _ _, .int .i64 _, .int .i64 _]) rfl rfl rfl (.there (.there (.there (.there (.there .here))))) (cs' := [.slice _ _ _, .int .i64 _, .int .i64 _]) rfl rfl ?_
      intro w710 hS711
      refine wl_h hS711.toHeld (r_assign (v := .int .i64 _) rfl) <| wl_nil <| c_seq <| c_region <| wl_h hS711.toHeld (r_box ty53 (k := 0) (.there (.there (.there (.there (.there (.there .here)))))) rfl rfl rfl (v := .agg #[.slice _ _ _, .slice _ _ _, .int .i64 _, .int .i64 _, .int .i64 _]) rfl) ?_
      refine wl_h hS711.toHeld (r_move (v := .slice _ _ _) rfl) ?_
      obtain ⟨m712, hm713, hS714, hr715⟩ := hS711.freezeR (.there (.there (.there .here))) hrc41 RStop.mono (by decide)
      have le717 := Mem.le_trans le708 hm713
      have le718 := Mem.le_trans le709 hm713
      replace hk12 := RFleet.mono _ _ _ _ hk12 hm713
      replace hr7 := RSl.mono RStop.mono hr7 hm713
      replace hr11 := RSl.mono (RS.mono RInt.mono) hr11 hm713
      replace hr16 := RSl.mono RInt.mono hr16 hm713
      replace hrc29 := RCs.mono RStop.mono hrc29 hm713
      replace hrc35 := RCs.mono (RS.mono RInt.mono) hrc35 hm713
      replace hrc41 := RCs.mono RStop.mono hrc41 hm713
      replace hrc47 := RCs.mono (RS.mono RInt.mono) hrc47 hm713
      replace hrc69 := RCs.mono RInt.mono hrc69 hm713
      replace hrc273 := RCs.mono RInt.mono hrc273 hm713
      replace hrc274 := RCs.mono RInt.mono hrc274 hm713
      replace hrc323 := RCs.mono RInt.mono hrc323 hm713
      replace hrc324 := RCs.mono RInt.mono hrc324 hm713
      replace hrc649 := RCs.mono RInt.mono hrc649 hm713
      replace hr680 := RSl.mono RStop.mono hr680 hm713
      replace hr687 := RSl.mono (RS.mono RInt.mono) hr687 hm713
      replace hr694 := RSl.mono RInt.mono hr694 hm713
      replace hr705 := RSl.mono RInt.mono hr705 hm713
      obtain ⟨m719, hm720, hS721, hr722⟩ := hS714.freezeR (.there (.there (.there .here))) hrc47 (RS.mono RInt.mono) (by decide)
      have le724 := Mem.le_trans le717 hm720
      have le725 := Mem.le_trans le718 hm720
      replace hk12 := RFleet.mono _ _ _ _ hk12 hm720
      replace hr7 := RSl.mono RStop.mono hr7 hm720
      replace hr11 := RSl.mono (RS.mono RInt.mono) hr11 hm720
      replace hr16 := RSl.mono RInt.mono hr16 hm720
      replace hrc29 := RCs.mono RStop.mono hrc29 hm720
      replace hrc35 := RCs.mono (RS.mono RInt.mono) hrc35 hm720
      replace hrc41 := RCs.mono RStop.mono hrc41 hm720
      replace hrc47 := RCs.mono (RS.mono RInt.mono) hrc47 hm720
      replace hrc69 := RCs.mono RInt.mono hrc69 hm720
      replace hrc273 := RCs.mono RInt.mono hrc273 hm720
      replace hrc274 := RCs.mono RInt.mono hrc274 hm720
      replace hrc323 := RCs.mono RInt.mono hrc323 hm720
      replace hrc324 := RCs.mono RInt.mono hrc324 hm720
      replace hrc649 := RCs.mono RInt.mono hrc649 hm720
      replace hr680 := RSl.mono RStop.mono hr680 hm720
      replace hr687 := RSl.mono (RS.mono RInt.mono) hr687 hm720
      replace hr694 := RSl.mono RInt.mono hr694 hm720
      replace hr705 := RSl.mono RInt.mono hr705 hm720
      replace hr715 := RSl.mono RStop.mono hr715 hm720
      obtain ⟨r726, hq727, hM⟩ := bnd_ok hM
      refine wl_call ent25 (vals := [.agg #[.slice _ _ _, .slice _ _ _, .int .i64 _, .int .i64 _, .int .i64 _], .slice _ _ _]) rfl (cg25 hS721 ⟨_, _, _, _, _, _, rfl, hr715, hr722⟩ hr16 hq727) ?_
      rintro _ w734 ⟨m728, a730, n731, c732, rfl, hm729, hr733, hS735⟩
      obtain rfl := hr733.1
      have le736 := Mem.le_trans le724 hm729
      have le737 := Mem.le_trans le725 hm729
      replace hk12 := RFleet.mono _ _ _ _ hk12 hm729
      replace hr7 := RSl.mono RStop.mono hr7 hm729
      replace hr11 := RSl.mono (RS.mono RInt.mono) hr11 hm729
      replace hr16 := RSl.mono RInt.mono hr16 hm729
      replace hrc29 := RCs.mono RStop.mono hrc29 hm729
      replace hrc35 := RCs.mono (RS.mono RInt.mono) hrc35 hm729
      replace hrc41 := RCs.mono RStop.mono hrc41 hm729
      replace hrc47 := RCs.mono (RS.mono RInt.mono) hrc47 hm729
      replace hrc69 := RCs.mono RInt.mono hrc69 hm729
      replace hrc273 := RCs.mono RInt.mono hrc273 hm729
      replace hrc274 := RCs.mono RInt.mono hrc274 hm729
      replace hrc323 := RCs.mono RInt.mono hrc323 hm729
      replace hrc324 := RCs.mono RInt.mono hrc324 hm729
      replace hrc649 := RCs.mono RInt.mono hrc649 hm729
      replace hr680 := RSl.mono RStop.mono hr680 hm729
      replace hr687 := RSl.mono (RS.mono RInt.mono) hr687 hm729
      replace hr694 := RSl.mono RInt.mono hr694 hm729
      replace hr705 := RSl.mono RInt.mono hr705 hm729
      replace hr715 := RSl.mono RStop.mono hr715 hm729
      replace hr722 := RSl.mono (RS.mono RInt.mono) hr722 hm729
      refine wl_h hS735.toHeld (r_move (v := .tuple #[.agg #[.slice _ _ _, .int .i64 _, .int .i64 _], .int .i64 _]) rfl) <| wl_h hS735.toHeld (r_extract (vs := [.agg #[.slice _ _ _, .int .i64 _, .int .i64 _], .int .i64 _]) rfl (v := .agg #[.slice _ _ _, .int .i64 _, .int .i64 _]) rfl) <| wl_h hS735.toHeld (r_extract (vs := [.agg #[.slice _ _ _, .int .i64 _, .int .i64 _], .int .i64 _]) rfl (v := .int .i64 _) rfl) <| wl_store_box ty64 hS735 rfl (v := .agg #[.slice _ _ _, .int .i64 _, .int .i64 _]) rfl (vs := [.slice _ _ _, .int .i64 _, .int .i64 _]) rfl rfl rfl (.there (.there .here)) (cs' := [.slice _ _ _, .int .i64 _, .int .i64 _]) rfl rfl ?_
      intro w738 hS739
      refine wl_h hS739.toHeld (r_assign (v := .int .i64 _) rfl) <| wl_nil <| c_seq <| c_seq <| c_region <| wl_h hS739.toHeld (r_box ty61 (k := 0) (.there (.there (.there .here))) rfl rfl rfl (v := .agg #[.slice _ _ _, .int .i64 _, .int .i64 _]) rfl) ?_
      refine wl_h hS739.toHeld (r_box ty64 (k := 0) (.there (.there .here)) rfl rfl rfl (v := .agg #[.slice _ _ _, .int .i64 _, .int .i64 _]) rfl) ?_
      obtain ⟨r740, hq741, hM⟩ := bnd_ok hM
      refine wl_call ent22 (vals := [.agg #[.slice _ _ _, .int .i64 _, .int .i64 _], .agg #[.slice _ _ _, .int .i64 _, .int .i64 _]]) rfl (cg22 hS739 ⟨_, _, _, rfl, hr705⟩ ⟨_, _, _, rfl, hr733⟩ hq741) ?_
      rintro _ w743 ⟨rfl, hS744⟩
      refine wl_h hS744.toHeld (r_not (b := _) rfl) <| wl_h hS744.toHeld (r_move (v := .bool _) rfl) <| wl_split rfl (c := _) (t := 85) (fun h745 => ?_) (fun h745 => ?_)
      ·replace hM := bif_t h745 hM
       refine wl_off (t := 85) (b := true) rfl rfl rfl ?_
       refine wl_off (t := 85) (b := true) rfl rfl rfl ?_
       refine wl_off (t := 85) (b := true) rfl rfl rfl ?_
       refine wl_h hS744.toHeld (r_pick_t rfl (v := .bool _) rfl) <| wl_nil <| c_true rfl <| c_seq <| c_region <| wl_h hS744.toHeld (r_assign (v := .bool _) rfl) ?_
       refine wl_nil <| c_ret <| ret_tmp (t := 4) rfl (v := .bool _) rfl ?_
       obtain rfl := some_eq hM
       have hS746 := hS744.weaken (.cons _ (.cons _ (.cons _ (.cons _ (.cons _ (.cons _ (.cons _ (.refl _))))))))
       exact ⟨rfl, (St.back hS746 le736)⟩
      ·replace hM := bif_f h745 hM
       refine wl_on (t := 85) rfl rfl ?_
       refine wl_h hS744.toHeld (r_move (v := .int .i64 _) rfl) <| wl_on (t := 85) rfl rfl ?_
       refine wl_h hS744.toHeld (r_move (v := .int .i64 _) rfl) <| wl_on (t := 85) rfl rfl ?_
       refine wl_h hS744.toHeld (r_neq (a := _) (b := _) rfl rfl) <| wl_h hS744.toHeld (r_pick_f rfl (v := .bool _) rfl) <| wl_nil <| c_cond (c := _) rfl (fun h747 => ?_) (fun h747 => ?_)
       ·replace hM := bif_t h747 hM
        refine c_seq <| c_region <| wl_h hS744.toHeld (r_assign (v := .bool _) rfl) <| wl_nil <| c_ret <| ret_tmp (t := 4) rfl (v := .bool _) rfl ?_
        obtain rfl := some_eq hM
        have hS748 := hS744.weaken (.cons _ (.cons _ (.cons _ (.cons _ (.cons _ (.cons _ (.cons _ (.refl _))))))))
        exact ⟨rfl, (St.back hS748 le736)⟩
       ·replace hM := bif_f h747 hM
        refine c_skip <| c_seq <| c_region <| wl_h hS744.toHeld (r_box ty25 (k := 0) (.there (.there (.there (.there (.there .here))))) rfl rfl rfl (v := .agg #[.slice _ _ _, .slice _ _ _, .int .i64 _, .int .i64 _, .int .i64 _]) rfl) <| wl_h hS744.toHeld (r_move (v := .slice _ _ _) rfl) ?_
        obtain ⟨r749, hq750, hM⟩ := bnd_ok hM
        refine wl_call ent26 (vals := [.agg #[.slice _ _ _, .slice _ _ _, .int .i64 _, .int .i64 _, .int .i64 _], .slice _ _ _]) rfl (cg26 hS744 ⟨_, _, _, _, _, _, rfl, hr680, hr687⟩ hr694 hq750) ?_
        rintro _ w752 ⟨rfl, hS753⟩
        refine wl_h hS753.toHeld (r_move (v := .tuple #[.int .i64 _, .int .i64 _]) rfl) <| wl_h hS753.toHeld (r_extract (vs := [.int .i64 _, .int .i64 _]) rfl (v := .int .i64 _) rfl) <| wl_h hS753.toHeld (r_extract (vs := [.int .i64 _, .int .i64 _]) rfl (v := .int .i64 _) rfl) <| wl_h hS753.toHeld (r_assign (v := .int .i64 _) rfl) <| wl_h hS753.toHeld (r_assign (v := .int .i64 _) rfl) ?_
        refine wl_nil <| c_seq <| c_region <| wl_h hS753.toHeld (r_box ty53 (k := 0) (.there (.there (.there (.there .here)))) rfl rfl rfl (v := .agg #[.slice _ _ _, .slice _ _ _, .int .i64 _, .int .i64 _, .int .i64 _]) rfl) <| wl_h hS753.toHeld (r_move (v := .slice _ _ _) rfl) ?_
        obtain ⟨r754, hq755, hM⟩ := bnd_ok hM
        refine wl_call ent27 (vals := [.agg #[.slice _ _ _, .slice _ _ _, .int .i64 _, .int .i64 _, .int .i64 _], .slice _ _ _]) rfl (cg27 hS753 ⟨_, _, _, _, _, _, rfl, hr715, hr722⟩ hr16 hq755) ?_
        rintro _ w757 ⟨rfl, hS758⟩
        refine wl_h hS758.toHeld (r_move (v := .tuple #[.int .i64 _, .int .i64 _]) rfl) <| wl_h hS758.toHeld (r_extract (vs := [.int .i64 _, .int .i64 _]) rfl (v := .int .i64 _) rfl) <| wl_h hS758.toHeld (r_extract (vs := [.int .i64 _, .int .i64 _]) rfl (v := .int .i64 _) rfl) <| wl_h hS758.toHeld (r_assign (v := .int .i64 _) rfl) <| wl_h hS758.toHeld (r_assign (v := .int .i64 _) rfl) ?_
        refine wl_nil <| c_seq <| c_region <| wl_h hS758.toHeld (r_move (v := .int .i64 _) rfl) <| wl_h hS758.toHeld (r_move (v := .int .i64 _) rfl) ?_
        refine wl_h hS758.toHeld (r_eql (a := _) (b := _) rfl rfl) <| wl_h hS758.toHeld (r_move (v := .bool _) rfl) <| wl_split rfl (c := _) (t := 105) (fun h759 => ?_) (fun h759 => ?_)
        ·replace hM := bif_t h759 hM
         refine wl_on (t := 105) rfl rfl ?_
         refine wl_h hS758.toHeld (r_move (v := .int .i64 _) rfl) <| wl_on (t := 105) rfl rfl ?_
         refine wl_h hS758.toHeld (r_move (v := .int .i64 _) rfl) <| wl_on (t := 105) rfl rfl ?_
         refine wl_h hS758.toHeld (r_eql (a := _) (b := _) rfl rfl) <| wl_h hS758.toHeld (r_pick_t rfl (v := .bool _) rfl) <| wl_h hS758.toHeld (r_move (v := .bool _) rfl) <| wl_split rfl (c := _) (t := 110) (fun h760 => ?_) (fun h760 => ?_)
         ·replace hM := bif_t h760 hM
          refine wl_on (t := 110) rfl rfl ?_
          refine wl_h hS758.toHeld (r_box ty25 (k := 0) (.there (.there (.there (.there (.there .here))))) rfl rfl rfl (v := .agg #[.slice _ _ _, .slice _ _ _, .int .i64 _, .int .i64 _, .int .i64 _]) rfl) <| wl_on (t := 110) rfl rfl ?_
          refine wl_h hS758.toHeld (r_box ty25 (k := 0) (.there (.there (.there (.there (.there (.there .here)))))) rfl rfl rfl (v := .agg #[.slice _ _ _, .slice _ _ _, .int .i64 _, .int .i64 _, .int .i64 _]) rfl) <| wl_on (t := 110) rfl rfl ?_
          obtain ⟨r761, hq762, hM⟩ := bnd_ok hM
          refine wl_call ent28 (vals := [.agg #[.slice _ _ _, .slice _ _ _, .int .i64 _, .int .i64 _, .int .i64 _], .agg #[.slice _ _ _, .slice _ _ _, .int .i64 _, .int .i64 _, .int .i64 _]]) rfl (cg28 hS758 ⟨_, _, _, _, _, _, rfl, hr680, hr687⟩ hk12 hq762) ?_
          rintro _ w764 ⟨rfl, hS765⟩
          refine wl_h hS765.toHeld (r_pick_t rfl (v := .bool _) rfl) <| wl_h hS765.toHeld (r_move (v := .bool _) rfl) <| wl_split rfl (c := _) (t := 115) (fun h766 => ?_) (fun h766 => ?_)
          ·replace hM := bif_t h766 hM
           refine wl_on (t := 115) rfl rfl ?_
           refine wl_h hS765.toHeld (r_move (v := .slice _ _ _) rfl) <| wl_on (t := 115) rfl rfl ?_
           refine wl_h hS765.toHeld (r_move (v := .slice _ _ _) rfl) <| wl_on (t := 115) rfl rfl ?_
           obtain ⟨r767, hq768, hM⟩ := bnd_ok hM
           refine wl_call ent23 (vals := [.slice _ _ _, .slice _ _ _]) rfl (cg23 hS765 hr694 hr16 hq768) ?_
           rintro _ w770 ⟨rfl, hS771⟩
           refine wl_h hS771.toHeld (r_pick_t rfl (v := .bool _) rfl) <| wl_h hS771.toHeld (r_assign (v := .bool _) rfl) <| wl_nil <| c_ret <| ret_tmp (t := 4) rfl (v := .bool _) rfl ?_
           obtain rfl := some_eq hM
           have hS772 := hS771.weaken (.cons _ (.cons _ (.cons _ (.cons _ (.cons _ (.cons _ (.cons _ (.refl _))))))))
           exact ⟨rfl, (St.back hS772 le736)⟩
          ·replace hM := bif_f h766 hM
           refine wl_off (t := 115) (b := false) rfl rfl rfl ?_
           refine wl_off (t := 115) (b := false) rfl rfl rfl ?_
           refine wl_off (t := 115) (b := false) rfl rfl rfl ?_
           refine wl_h hS765.toHeld (r_pick_f rfl (v := .bool _) rfl) <| wl_h hS765.toHeld (r_assign (v := .bool _) rfl) <| wl_nil <| c_ret <| ret_tmp (t := 4) rfl (v := .bool _) rfl ?_
           obtain rfl := some_eq hM
           have hS773 := hS765.weaken (.cons _ (.cons _ (.cons _ (.cons _ (.cons _ (.cons _ (.cons _ (.refl _))))))))
           exact ⟨rfl, (St.back hS773 le736)⟩
         ·replace hM := bif_f h760 hM
          refine wl_off (t := 110) (b := false) rfl rfl rfl ?_
          refine wl_off (t := 110) (b := false) rfl rfl rfl ?_
          refine wl_off (t := 110) (b := false) rfl rfl rfl ?_
          refine wl_h hS758.toHeld (r_pick_f rfl (v := .bool _) rfl) <| wl_h hS758.toHeld (r_move (v := .bool _) rfl) <| wl_off (t := 115) (b := false) rfl rfl rfl ?_
          refine wl_off (t := 115) (b := false) rfl rfl rfl ?_
          refine wl_off (t := 115) (b := false) rfl rfl rfl ?_
          refine wl_h hS758.toHeld (r_pick_f rfl (v := .bool _) rfl) <| wl_h hS758.toHeld (r_assign (v := .bool _) rfl) <| wl_nil <| c_ret <| ret_tmp (t := 4) rfl (v := .bool _) rfl ?_
          obtain rfl := some_eq hM
          have hS774 := hS758.weaken (.cons _ (.cons _ (.cons _ (.cons _ (.cons _ (.cons _ (.cons _ (.refl _))))))))
          exact ⟨rfl, (St.back hS774 le736)⟩
        ·replace hM := bif_f h759 hM
         refine wl_off (t := 105) (b := false) rfl rfl rfl ?_
         refine wl_off (t := 105) (b := false) rfl rfl rfl ?_
         refine wl_off (t := 105) (b := false) rfl rfl rfl ?_
         refine wl_h hS758.toHeld (r_pick_f rfl (v := .bool _) rfl) <| wl_h hS758.toHeld (r_move (v := .bool _) rfl) <| wl_off (t := 110) (b := false) rfl rfl rfl ?_
         refine wl_off (t := 110) (b := false) rfl rfl rfl ?_
         refine wl_off (t := 110) (b := false) rfl rfl rfl ?_
         refine wl_h hS758.toHeld (r_pick_f rfl (v := .bool _) rfl) <| wl_h hS758.toHeld (r_move (v := .bool _) rfl) <| wl_off (t := 115) (b := false) rfl rfl rfl ?_
         refine wl_off (t := 115) (b := false) rfl rfl rfl ?_
         refine wl_off (t := 115) (b := false) rfl rfl rfl ?_
         refine wl_h hS758.toHeld (r_pick_f rfl (v := .bool _) rfl) <| wl_h hS758.toHeld (r_assign (v := .bool _) rfl) <| wl_nil <| c_ret <| ret_tmp (t := 4) rfl (v := .bool _) rfl ?_
         obtain rfl := some_eq hM
         have hS775 := hS758.weaken (.cons _ (.cons _ (.cons _ (.cons _ (.cons _ (.cons _ (.cons _ (.refl _))))))))
         exact ⟨rfl, (St.back hS775 le736)⟩

theorem cg12 {m : Mem} {L : List Atom} {w : World}  (hS : St w m L)  {fuel : Nat} {r : Fleet} (hM : mg12 fuel  = some r) : Calls P0 12 [].toArray w (Ret fun v w' => ∃ (m' : Mem) (a0 : Option Addr) (n0 : Nat) (c0 : Nat) (cs0 : List Value) (a1 : Option Addr) (n1 : Nat) (c1 : Nat) (cs1 : List Value), v = .agg #[.slice a0 n0 c0, .slice a1 n1 c1, .int .i64 r.cap, .int .i64 r.start, .int .i64 r.back] ∧ m ≤ m' ∧ n0 = r.stops.length ∧ RCs 5 RStop m' cs0 r.stops ∧ n1 = r.minutes.length ∧ RCs 1 (RS 1 RInt) m' cs1 r.minutes ∧ St w' m' (.row (.slice a0 n0 c0) 34 5 cs0 :: .row (.slice a1 n1 c1) 26 1 cs1 :: L)) := by
 rw [mg12] at hM
 refine enter Tryz.func12 rfl Tryz.ntmps12 (Nat.le_of_ble_eq_true rfl) ?_
 refine c_seq <| c_region <| wl_alloc ty25 rfl hS ?_
 intro b1 w2 hS3
 refine wl_nil <| c_seq <| c_region <| wl_h hS3.toHeld (r_build ty34 st34 (ps := [(0, [.int .i64 _]), (1, [.int .i64 _]), (3, [.int .i64 _]), (4, [.int .i64 _])]) rfl rfl (cs := [.int .i64 _, .int .i64 _, .int .i64 _, .int .i64 _, .int .i64 _]) rfl) <| wl_h hS3.toHeld (r_build ty34 st34 (ps := [(0, [.int .i64 _]), (3, [.int .i64 _]), (4, [.int .i64 _])]) rfl rfl (cs := [.int .i64 _, .int .i64 _, .int .i64 _, .int .i64 _, .int .i64 _]) rfl) ?_
 refine wl_buildSlice Tryz.underlying22 ty34 rfl (by decide) (by decide) hS3 (ps := [(0, [.int .i64 _, .int .i64 _, .int .i64 _, .int .i64 _, .int .i64 _]), (1, [.int .i64 _, .int .i64 _, .int .i64 _, .int .i64 _, .int .i64 _])]) rfl rfl (cs := [.int .i64 _, .int .i64 _, .int .i64 _, .int .i64 _, .int .i64 _, .int .i64 _, .int .i64 _, .int .i64 _, .int .i64 _, .int .i64 _]) rfl rfl (by decide) ?_
 intro b5 w6 hS7
 have hrc8 : RCs 5 RStop m [.int .i64 100, .int .i64 70, .int .i64 0, .int .i64 1440, .int .i64 2, .int .i64 100, .int .i64 0, .int .i64 0, .int .i64 1440, .int .i64 2] ([(⟨100, 70, 0, 1440, 2⟩ : Stop), (⟨100, 0, 0, 1440, 2⟩ : Stop)] : List Stop) := (RCs.cons (d := [.int .i64 100, .int .i64 70, .int .i64 0, .int .i64 1440, .int .i64 2]) rfl rfl (RCs.cons (d := [.int .i64 100, .int .i64 0, .int .i64 0, .int .i64 1440, .int .i64 2]) rfl rfl RCs.nil))
 refine wl_buildSlice Tryz.underlying26 ty3 rfl (by decide) (by decide) hS7 (ps := [(0, [.int .i64 _]), (1, [.int .i64 _]), (2, [.int .i64 _])]) rfl rfl (cs := [.int .i64 _, .int .i64 _, .int .i64 _]) rfl rfl (by decide) ?_
 intro b10 w11 hS12
 have hrc13 : RCs 1 RInt m [.int .i64 0, .int .i64 10, .int .i64 20] ([0, 10, 20] : List Int) := (RCs.cons (d := [.int .i64 0]) rfl rfl (RCs.cons (d := [.int .i64 10]) rfl rfl (RCs.cons (d := [.int .i64 20]) rfl rfl RCs.nil)))
 refine wl_buildSlice Tryz.underlying26 ty3 rfl (by decide) (by decide) hS12 (ps := [(0, [.int .i64 _]), (1, [.int .i64 _]), (2, [.int .i64 _])]) rfl rfl (cs := [.int .i64 _, .int .i64 _, .int .i64 _]) rfl rfl (by decide) ?_
 intro b15 w16 hS17
 have hrc18 : RCs 1 RInt m [.int .i64 10, .int .i64 0, .int .i64 5] ([10, 0, 5] : List Int) := (RCs.cons (d := [.int .i64 10]) rfl rfl (RCs.cons (d := [.int .i64 0]) rfl rfl (RCs.cons (d := [.int .i64 5]) rfl rfl RCs.nil)))
 refine wl_buildSlice Tryz.underlying26 ty3 rfl (by decide) (by decide) hS17 (ps := [(0, [.int .i64 _]), (1, [.int .i64 _]), (2, [.int .i64 _])]) rfl rfl (cs := [.int .i64 _, .int .i64 _, .int .i64 _]) rfl rfl (by decide) ?_
 intro b20 w21 hS22
 have hrc23 : RCs 1 RInt m [.int .i64 20, .int .i64 5, .int .i64 0] ([20, 5, 0] : List Int) := (RCs.cons (d := [.int .i64 20]) rfl rfl (RCs.cons (d := [.int .i64 5]) rfl rfl (RCs.cons (d := [.int .i64 0]) rfl rfl RCs.nil)))
 obtain ⟨m24, hm25, hS26, hr27⟩ := hS22.freezeR (.there (.there .here)) hrc13 RInt.mono (by decide)
 have le29 := hm25
 replace hrc8 := RCs.mono RStop.mono hrc8 hm25
 replace hrc13 := RCs.mono RInt.mono hrc13 hm25
 replace hrc18 := RCs.mono RInt.mono hrc18 hm25
 replace hrc23 := RCs.mono RInt.mono hrc23 hm25
 obtain ⟨m30, hm31, hS32, hr33⟩ := hS26.freezeR (.there .here) hrc18 RInt.mono (by decide)
 have le35 := Mem.le_trans le29 hm31
 replace hrc8 := RCs.mono RStop.mono hrc8 hm31
 replace hrc13 := RCs.mono RInt.mono hrc13 hm31
 replace hrc18 := RCs.mono RInt.mono hrc18 hm31
 replace hrc23 := RCs.mono RInt.mono hrc23 hm31
 replace hr27 := RSl.mono RInt.mono hr27 hm31
 obtain ⟨m36, hm37, hS38, hr39⟩ := hS32.freezeR .here hrc23 RInt.mono (by decide)
 have le41 := Mem.le_trans le35 hm37
 replace hrc8 := RCs.mono RStop.mono hrc8 hm37
 replace hrc13 := RCs.mono RInt.mono hrc13 hm37
 replace hrc18 := RCs.mono RInt.mono hrc18 hm37
 replace hrc23 := RCs.mono RInt.mono hrc23 hm37
 replace hr27 := RSl.mono RInt.mono hr27 hm37
 replace hr33 := RSl.mono RInt.mono hr33 hm37
 refine wl_buildSlice Tryz.underlying23 ty26 rfl (by decide) (by decide) hS38 (ps := [(0, [.slice _ _ _]), (1, [.slice _ _ _]), (2, [.slice _ _ _])]) rfl rfl (cs := [.slice _ _ _, .slice _ _ _, .slice _ _ _]) rfl rfl (by decide) ?_
 intro b43 w44 hS45
 have hrc46 : RCs 1 (RS 1 RInt) m36 [.slice (some ⟨b10, 0, none⟩) 3 3, .slice (some ⟨b15, 0, none⟩) 3 3, .slice (some ⟨b20, 0, none⟩) 3 3] ([[0, 10, 20], [10, 0, 5], [20, 5, 0]] : List (List Int)) := (RCs.cons (d := [.slice (some ⟨b10, 0, none⟩) 3 3]) rfl ⟨_, _, _, rfl, hr27⟩ (RCs.cons (d := [.slice (some ⟨b15, 0, none⟩) 3 3]) rfl ⟨_, _, _, rfl, hr33⟩ (RCs.cons (d := [.slice (some ⟨b20, 0, none⟩) 3 3]) rfl ⟨_, _, _, rfl, hr39⟩ RCs.nil)))
 refine wl_h hS45.toHeld (r_build ty25 st25 (ps := [(0, [.slice _ _ _]), (1, [.slice _ _ _]), (2, [.int .i64 _]), (3, [.int .i64 _]), (4, [.int .i64 _])]) rfl rfl (cs := [.slice _ _ _, .slice _ _ _, .int .i64 _, .int .i64 _, .int .i64 _]) rfl) <| wl_store_box ty25 hS45 rfl (v := .agg #[.slice _ _ _, .slice _ _ _, .int .i64 _, .int .i64 _, .int .i64 _]) rfl (vs := [.slice _ _ _, .slice _ _ _, .int .i64 _, .int .i64 _, .int .i64 _]) rfl rfl rfl (.there (.there .here)) (cs' := [.slice _ _ _, .slice _ _ _, .int .i64 _, .int .i64 _, .int .i64 _]) rfl rfl ?_
 intro w47 hS48
 refine wl_nil <| c_ret <| ret_many rfl (.cell (v := .agg #[.slice _ _ _, .slice _ _ _, .int .i64 _, .int .i64 _, .int .i64 _]) rfl (ty25.run_loadVar (cs := [.slice _ _ _, .slice _ _ _, .int .i64 _, .int .i64 _, .int .i64 _]) (box_at (hS48.toHeld.own (.there (.there .here)))) rfl) .nil) ?_
 obtain rfl := some_eq hM
 have hS49 := hS48.weaken (.cons_cons _ (.cons_cons _ (.cons _ (.refl _))))
 have hS50 := hS49.front (.there .here)
 exact ⟨m36, (some ⟨b5, 0, none⟩), 2, 2, [.int .i64 100, .int .i64 70, .int .i64 0, .int .i64 1440, .int .i64 2, .int .i64 100, .int .i64 0, .int .i64 0, .int .i64 1440, .int .i64 2], (some ⟨b43, 0, none⟩), 3, 3, [.slice (some ⟨b10, 0, none⟩) 3 3, .slice (some ⟨b15, 0, none⟩) 3 3, .slice (some ⟨b20, 0, none⟩) 3 3], rfl, le41, row_n (hS50.toHeld.own .here) hrc8 (by decide), hrc8, row_n (hS50.toHeld.own (.there .here)) hrc46 (by decide), hrc46, hS50⟩

theorem cg13 {m : Mem} {L : List Atom} {w : World}  (hS : St w m L)  {fuel : Nat} {r : Round} (hM : mg13 fuel  = some r) : Calls P0 13 [].toArray w (Ret fun v w' => ∃ (a0 : Option Addr) (n0 : Nat) (c0 : Nat) (cs0 : List Value), v = .agg #[.int .i64 r.corners, .slice a0 n0 c0] ∧ n0 = r.streets.length ∧ RCs 3 RStreet m cs0 r.streets ∧ St w' m (.row (.slice a0 n0 c0) 47 3 cs0 :: L)) := by
 rw [mg13] at hM
 refine enter Tryz.func13 rfl Tryz.ntmps13 (Nat.le_of_ble_eq_true rfl) ?_
 refine c_seq <| c_region <| wl_alloc ty41 rfl hS ?_
 intro b1 w2 hS3
 refine wl_nil <| c_seq <| c_region <| wl_h hS3.toHeld (r_build ty47 st47 (ps := [(0, [.int .i64 _]), (1, [.int .i64 _]), (2, [.int .i64 _])]) rfl rfl (cs := [.int .i64 _, .int .i64 _, .int .i64 _]) rfl) <| wl_h hS3.toHeld (r_build ty47 st47 (ps := [(0, [.int .i64 _]), (1, [.int .i64 _]), (2, [.int .i64 _])]) rfl rfl (cs := [.int .i64 _, .int .i64 _, .int .i64 _]) rfl) ?_
 refine wl_h hS3.toHeld (r_build ty47 st47 (ps := [(0, [.int .i64 _]), (1, [.int .i64 _]), (2, [.int .i64 _])]) rfl rfl (cs := [.int .i64 _, .int .i64 _, .int .i64 _]) rfl) <| wl_h hS3.toHeld (r_build ty47 st47 (ps := [(0, [.int .i64 _]), (1, [.int .i64 _]), (2, [.int .i64 _])]) rfl rfl (cs := [.int .i64 _, .int .i64 _, .int .i64 _]) rfl) <| wl_buildSlice Tryz.underlying39 ty47 rfl (by decide) (by decide) hS3 (ps := [(0, [.int .i64 _, .int .i64 _, .int .i64 _]), (1, [.int .i64 _, .int .i64 _, .int .i64 _]), (2, [.int .i64 _, .int .i64 _, .int .i64 _]), (3, [.int .i64 _, .int .i64 _, .int .i64 _])]) rfl rfl (cs := [.int .i64 _, .int .i64 _, .int .i64 _, .int .i64 _, .int .i64 _, .int .i64 _, .int .i64 _, .int .i64 _, .int .i64 _, .int .i64 _, .int .i64 _, .int .i64 _]) rfl rfl (by decide) ?_
 intro b5 w6 hS7
 have hrc8 : RCs 3 RStreet m [.int .i64 0, .int .i64 1, .int .i64 5, .int .i64 1, .int .i64 2, .int .i64 6, .int .i64 2, .int .i64 0, .int .i64 7, .int .i64 0, .int .i64 1, .int .i64 9] ([(⟨0, 1, 5⟩ : Street), (⟨1, 2, 6⟩ : Street), (⟨2, 0, 7⟩ : Street), (⟨0, 1, 9⟩ : Street)] : List Street) := (RCs.cons (d := [.int .i64 0, .int .i64 1, .int .i64 5]) rfl rfl (RCs.cons (d := [.int .i64 1, .int .i64 2, .int .i64 6]) rfl rfl (RCs.cons (d := [.int .i64 2, .int .i64 0, .int .i64 7]) rfl rfl (RCs.cons (d := [.int .i64 0, .int .i64 1, .int .i64 9]) rfl rfl RCs.nil))))
 refine wl_h hS7.toHeld (r_build ty41 st41 (ps := [(0, [.int .i64 _]), (1, [.slice _ _ _])]) rfl rfl (cs := [.int .i64 _, .slice _ _ _]) rfl) <| wl_store_box ty41 hS7 rfl (v := .agg #[.int .i64 _, .slice _ _ _]) rfl (vs := [.int .i64 _, .slice _ _ _]) rfl rfl rfl (.there .here) (cs' := [.int .i64 _, .slice _ _ _]) rfl rfl ?_
 intro w9 hS10
 refine wl_nil <| c_ret <| ret_many rfl (.cell (v := .agg #[.int .i64 _, .slice _ _ _]) rfl (ty41.run_loadVar (cs := [.int .i64 _, .slice _ _ _]) (box_at (hS10.toHeld.own (.there .here))) rfl) .nil) ?_
 obtain rfl := some_eq hM
 have hS11 := hS10.weaken (.cons_cons _ (.cons _ (.refl _)))
 exact ⟨(some ⟨b5, 0, none⟩), 4, 4, [.int .i64 0, .int .i64 1, .int .i64 5, .int .i64 1, .int .i64 2, .int .i64 6, .int .i64 2, .int .i64 0, .int .i64 7, .int .i64 0, .int .i64 1, .int .i64 9], rfl, row_n (hS11.toHeld.own .here) hrc8 (by decide), hrc8, hS11⟩

theorem cg134 {m : Mem} {L : List Atom} {w : World} {x1 : Int} {y2 : Int} (hS : St w m L)  {fuel : Nat} {r : Int} (hM : mg134 fuel x1 y2 = some r) : Calls P0 134 [.int .i64 x1, .int .i64 y2].toArray w (Ret fun v w' => v = .int .i64 r ∧ St w' m (L)) := by
 rw [mg134] at hM
 refine enter Tryz.func134 rfl Tryz.ntmps134 (Nat.le_of_ble_eq_true rfl) ?_
 refine c_seq <| c_region <| wl_h hS.toHeld (r_assign (v := .int .i64 _) rfl) <| wl_nil <| c_seq <| c_region <| wl_h hS.toHeld (r_move (v := .int .i64 _) rfl) ?_
 obtain ⟨r3, hq4, hM⟩ := bnd_ok hM
 refine wl_call ent148 (vals := [.int .i64 _]) rfl (cg148 hS hq4) ?_
 rintro _ w6 ⟨rfl, hS7⟩
 refine wl_h hS7.toHeld (r_assign (v := .bool _) rfl) <| wl_nil <| c_seq <| c_region <| wl_h hS7.toHeld (r_move (v := .int .i64 _) rfl) ?_
 obtain ⟨r8, hq9, hM⟩ := bnd_ok hM
 refine wl_call ent148 (vals := [.int .i64 _]) rfl (cg148 hS7 hq9) ?_
 rintro _ w11 ⟨rfl, hS12⟩
 refine wl_h hS12.toHeld (r_assign (v := .bool _) rfl) <| wl_nil <| c_seq <| c_seq <| c_region <| wl_h hS12.toHeld (r_move (v := .bool _) rfl) ?_
 refine wl_nil <| c_cond (c := _) rfl (fun h13 => ?_) (fun h13 => ?_)
 ·replace hM := bif_t h13 hM
  refine c_seq <| c_seq <| c_region <| wl_h hS12.toHeld (r_move (v := .bool _) rfl) <| wl_nil <| c_cond (c := _) rfl (fun h14 => ?_) (fun h14 => ?_)
  ·replace hM := bif_t h14 hM
   refine c_seq <| c_region <| wl_h hS12.toHeld (r_assign (v := .int .i64 _) rfl) <| wl_nil <| c_ret <| ret_tmp (t := 4) rfl (v := .int .i64 _) rfl ?_
   obtain rfl := some_eq hM
   exact ⟨rfl, hS12⟩
  ·replace hM := bif_f h14 hM
   refine c_skip <| c_seq <| c_region <| wl_h hS12.toHeld (r_assign (v := .int .i64 _) rfl) <| wl_nil <| c_ret <| ret_tmp (t := 4) rfl (v := .int .i64 _) rfl ?_
   obtain rfl := some_eq hM
   exact ⟨rfl, hS12⟩
 ·replace hM := bif_f h13 hM
  refine c_skip <| c_seq <| c_seq <| c_region <| wl_h hS12.toHeld (r_move (v := .bool _) rfl) ?_
  refine wl_nil <| c_cond (c := _) rfl (fun h15 => ?_) (fun h15 => ?_)
  ·replace hM := bif_t h15 hM
   refine c_seq <| c_region <| wl_h hS12.toHeld (r_assign (v := .int .i64 _) rfl) <| wl_nil <| c_ret <| ret_tmp (t := 4) rfl (v := .int .i64 _) rfl ?_
   obtain rfl := some_eq hM
   exact ⟨rfl, hS12⟩
  ·replace hM := bif_f h15 hM
   refine c_skip <| c_seq <| c_seq <| c_region <| wl_h hS12.toHeld (r_move (v := .int .i64 _) rfl) ?_
   refine wl_h hS12.toHeld (r_move (v := .int .i64 _) rfl) <| wl_h hS12.toHeld (r_lss (a := _) (b := _) rfl rfl) <| wl_nil <| c_cond (c := _) rfl (fun h16 => ?_) (fun h16 => ?_)
   ·replace hM := bif_t h16 hM
    refine c_seq <| c_region <| wl_h hS12.toHeld (r_assign (v := .int .i64 _) rfl) <| wl_nil <| c_ret <| ret_tmp (t := 4) rfl (v := .int .i64 _) rfl ?_
    obtain rfl := some_eq hM
    exact ⟨rfl, hS12⟩
   ·replace hM := bif_f h16 hM
    refine c_skip <| c_seq <| c_seq <| c_region <| wl_h hS12.toHeld (r_move (v := .int .i64 _) rfl) ?_
    refine wl_h hS12.toHeld (r_move (v := .int .i64 _) rfl) <| wl_h hS12.toHeld (r_gtr (a := _) (b := _) rfl rfl) <| wl_nil <| c_cond (c := _) rfl (fun h17 => ?_) (fun h17 => ?_)
    ·replace hM := bif_t h17 hM
     refine c_seq <| c_region <| wl_h hS12.toHeld (r_assign (v := .int .i64 _) rfl) <| wl_nil <| c_ret <| ret_tmp (t := 4) rfl (v := .int .i64 _) rfl ?_
     obtain rfl := some_eq hM
     exact ⟨rfl, hS12⟩
    ·replace hM := bif_f h17 hM
     refine c_skip <| c_seq <| c_region <| wl_h hS12.toHeld (r_assign (v := .int .i64 _) rfl) <| wl_nil <| c_ret <| ret_tmp (t := 4) rfl (v := .int .i64 _) rfl ?_
     obtain rfl := some_eq hM
     exact ⟨rfl, hS12⟩

theorem cg125 {m : Mem} {L : List Atom} {w : World} {a1 : Option Addr} {n2 c3 : Nat} {s15 : List Int} {a6 : Option Addr} {n7 c8 : Nat} {s210 : List Int} (hS : St w m L) (hr4 : RSl 1 RInt m a1 n2 c3 s15) (hr9 : RSl 1 RInt m a6 n7 c8 s210) {fuel : Nat} {r : Int} (hM : mg125 fuel s15 s210 = some r) : Calls P0 125 [.slice a1 n2 c3, .slice a6 n7 c8].toArray w (Ret fun v w' => v = .int .i64 r ∧ St w' m (L)) := by
 rw [mg125] at hM
 obtain rfl := hr4.1
 obtain rfl := hr9.1
 refine enter Tryz.func125 rfl Tryz.ntmps125 (Nat.le_of_ble_eq_true rfl) ?_
 refine c_seq <| c_region <| wl_h hS.toHeld (r_assign (v := .int .i64 _) rfl) <| wl_nil <| c_seq <| c_seq <| c_region <| wl_h hS.toHeld (r_move (v := .slice _ _ _) rfl) ?_
 refine wl_h hS.toHeld (r_len Tryz.underlying26 (a := _) (n := _) (c := _) rfl) <| wl_h hS.toHeld (r_move (v := .int .i64 _) rfl) <| wl_nil <| c_block <| c_loop (fun k f w => ∃ (x40 : Int), mg125_l0 fuel s15 s210 k x40 = some r ∧ St w m (L) ∧ f 0 = .slice a1 s15.length c3 ∧ f 1 = .slice a6 s210.length c8 ∧ f 9 = .slice a1 s15.length c3 ∧ f 10 = .int .i64 ((s15.length : Nat) : Int) ∧ f 11 = .int .i64 x40) fuel ⟨0, hM, hS, rfl, rfl, rfl, rfl, rfl⟩ ?_
 rintro k_0 f41 w42 ⟨x40, hM, hS44, e45, e46, e47, e48, e49⟩
 refine c_know (t := 0) e45 <| c_know (t := 1) e46 <| c_know (t := 9) e47 <| c_know (t := 10) e48 <| c_know (t := 11) e49 ?_
 clear e45 e46 e47 e48 e49
 rcases k_0 with _ | k_0
 · exact none_ne hM
 rw [mg125_l0] at hM
 refine c_seq <| c_region <| wl_h hS44.toHeld (r_lss (a := _) (b := _) rfl rfl) <| wl_nil <| c_seq <| c_cond (c := _) rfl (fun h50 => ?_) (fun h50 => ?_)
 ·replace hM := bif_t h50 hM
  refine c_skip <| c_seq <| c_block <| c_seq <| c_region <| wl_h hS44.toHeld (r_move (v := .int .i64 _) rfl) ?_
  obtain ⟨x51, hx52, h53, h54, hM⟩ := getK_ok hM
  obtain ⟨b55, o56, rfl⟩ := RSl.elem_a hr4 hx52
  obtain ⟨cs57, hI58, hR59⟩ := RSl.elem_at hr4 hx52
  obtain rfl := hR59
  refine wl_h hS44.toHeld (r_indexAddr Tryz.underlying26 ty3 (b := _) (o := _) (n := _) (c := _) (i := x40) rfl rfl h53 (RSl.lt hr4 h54)) <| wl_h hS44.toHeld (r_imm ty3 (k := 0) hI58 rfl rfl rfl (v := .int .i64 _) rfl) <| wl_h hS44.toHeld (r_assign (v := .int .i64 _) rfl) <| wl_h hS44.toHeld (r_assign (v := .int .i64 _) rfl) <| wl_nil <| c_seq <| c_seq <| c_region <| wl_h hS44.toHeld (r_move (v := .int .i64 _) rfl) ?_
  refine wl_h hS44.toHeld (r_move (v := .slice _ _ _) rfl) <| wl_h hS44.toHeld (r_len Tryz.underlying26 (a := _) (n := _) (c := _) rfl) <| wl_h hS44.toHeld (r_geq (a := _) (b := _) rfl rfl) <| wl_nil <| c_cond (c := _) rfl (fun h60 => ?_) (fun h60 => ?_)
  ·replace hM := bif_t h60 hM
   refine c_seq <| c_region <| wl_h hS44.toHeld (r_assign (v := .int .i64 _) rfl) <| wl_nil <| c_ret <| q_retb ?_
   refine q_retl <| q_retb <| ret_tmp (t := 4) rfl (v := .int .i64 _) rfl ?_
   obtain rfl := some_eq hM
   exact ⟨rfl, hS44⟩
  ·replace hM := bif_f h60 hM
   refine c_skip <| c_seq <| c_region <| wl_h hS44.toHeld (r_move (v := .slice _ _ _) rfl) <| wl_h hS44.toHeld (r_move (v := .int .i64 _) rfl) ?_
   obtain ⟨x61, hx62, h63, h64, hM⟩ := getK_ok hM
   obtain ⟨b65, o66, rfl⟩ := RSl.elem_a hr9 hx62
   obtain ⟨cs67, hI68, hR69⟩ := RSl.elem_at hr9 hx62
   obtain rfl := hR69
   refine wl_h hS44.toHeld (r_indexAddr Tryz.underlying26 ty3 (b := _) (o := _) (n := _) (c := _) (i := x40) rfl rfl h63 (RSl.lt hr9 h64)) <| wl_h hS44.toHeld (r_imm ty3 (k := 0) hI68 rfl rfl rfl (v := .int .i64 _) rfl) <| wl_h hS44.toHeld (r_assign (v := .int .i64 _) rfl) <| wl_nil <| c_seq <| c_region <| wl_h hS44.toHeld (r_move (v := .int .i64 _) rfl) ?_
   refine wl_h hS44.toHeld (r_move (v := .int .i64 _) rfl) ?_
   obtain ⟨r70, hq71, hM⟩ := bnd_ok hM
   refine wl_call ent134 (vals := [.int .i64 _, .int .i64 _]) rfl (cg134 hS44 hq71) ?_
   rintro _ w73 ⟨rfl, hS74⟩
   refine wl_h hS74.toHeld (r_assign (v := .int .i64 _) rfl) <| wl_nil <| c_seq <| c_region <| wl_h hS74.toHeld (r_move (v := .int .i64 _) rfl) ?_
   refine wl_h hS74.toHeld (r_neq (a := _) (b := _) rfl rfl) <| wl_nil <| c_cond (c := _) rfl (fun h75 => ?_) (fun h75 => ?_)
   ·replace hM := bif_t h75 hM
    refine c_seq <| c_region <| wl_h hS74.toHeld (r_move (v := .int .i64 _) rfl) <| wl_h hS74.toHeld (r_assign (v := .int .i64 _) rfl) <| wl_nil <| c_ret <| q_retb ?_
    refine q_retl <| q_retb <| ret_tmp (t := 4) rfl (v := .int .i64 _) rfl ?_
    obtain rfl := some_eq hM
    exact ⟨rfl, hS74⟩
   ·replace hM := bif_f h75 hM
    refine c_skip <| c_nil <| q_norm <| c_region ?_
    obtain ⟨hc76, hM⟩ := chk_ok hM
    refine wl_h hS74.toHeld (r_add (a := _) (b := _) rfl rfl (ok_lo hc76) (ok_hi hc76)) <| wl_h hS74.toHeld (r_move (v := .int .i64 _) rfl) <| wl_nil <| c_nil <| q_loop ?_
    exact ⟨k_0, Nat.lt_succ_self _, x40 + 1, hM, hS74, rfl, rfl, rfl, rfl, rfl⟩
 ·replace hM := bif_f h50 hM
  refine c_exit <| q_loopx <| q_hit <| c_seq <| c_seq <| c_region <| wl_h hS44.toHeld (r_move (v := .slice _ _ _) rfl) ?_
  refine wl_h hS44.toHeld (r_len Tryz.underlying26 (a := _) (n := _) (c := _) rfl) <| wl_h hS44.toHeld (r_move (v := .slice _ _ _) rfl) <| wl_h hS44.toHeld (r_len Tryz.underlying26 (a := _) (n := _) (c := _) rfl) <| wl_h hS44.toHeld (r_lss (a := _) (b := _) rfl rfl) <| wl_nil <| c_cond (c := _) rfl (fun h77 => ?_) (fun h77 => ?_)
  ·replace hM := bif_t h77 hM
   refine c_seq <| c_region <| wl_h hS44.toHeld (r_assign (v := .int .i64 _) rfl) <| wl_nil <| c_ret <| ret_tmp (t := 4) rfl (v := .int .i64 _) rfl ?_
   obtain rfl := some_eq hM
   exact ⟨rfl, hS44⟩
  ·replace hM := bif_f h77 hM
   refine c_skip <| c_seq <| c_region <| wl_h hS44.toHeld (r_assign (v := .int .i64 _) rfl) <| wl_nil <| c_ret <| ret_tmp (t := 4) rfl (v := .int .i64 _) rfl ?_
   obtain rfl := some_eq hM
   exact ⟨rfl, hS44⟩

theorem cg126 {m : Mem} {L : List Atom} {w : World} {cs1 : List Value} {p3 : Plan} (hS : St w m L) (hx2 : RPlan m cs1 p3) {fuel : Nat} {r : (List Int)} (hM : mg126 fuel p3 = some r) : Calls P0 126 [.agg cs1.toArray].toArray w (Ret fun v w' => ∃ (a0 : Option Addr) (n0 : Nat) (c0 : Nat) (cs0 : List Value), v = .slice a0 n0 c0 ∧ n0 = r.length ∧ RCs 1 RInt m cs0 r ∧ St w' m (.row (.slice a0 n0 c0) 3 1 cs0 :: L)) := by
 rw [mg126] at hM
 have hk8 := hx2
 obtain ⟨a4, n5, c6, rfl, hr7⟩ := hx2
 obtain rfl := hr7.1
 refine enter Tryz.func126 rfl Tryz.ntmps126 (Nat.le_of_ble_eq_true rfl) ?_
 refine c_seq <| c_region <| wl_box hS (v := .agg #[.bool _, .slice _ _ _, .int .i64 _]) rfl (cs := [.bool _, .slice _ _ _, .int .i64 _]) rfl ?_
 intro b9 w10 hS11
 refine wl_h hS11.toHeld (r_assign (v := .slice _ _ _) rfl) <| wl_nil <| c_seq <| c_region <| wl_h hS11.toHeld (r_assign (v := .slice _ _ _) rfl) ?_
 refine wl_nil <| c_seq <| c_seq <| c_region <| wl_h hS11.toHeld (r_fieldAddr fld143_1 (b := _) (o := _) rfl) ?_
 refine wl_h hS11.toHeld (r_box ty77 (k := 1) .here rfl rfl rfl (v := .slice _ _ _) rfl) <| wl_h hS11.toHeld (r_len Tryz.underlying77 (a := _) (n := _) (c := _) rfl) <| wl_h hS11.toHeld (r_move (v := .int .i64 _) rfl) <| wl_nil <| c_block ?_
 have hS12 := hS11.weaken (.cons _ (.refl _))
 have hS171 := hS12.nilRow 3 1
 have hrc172 : RCs 1 RInt m [] ([] : List Int) := RCs.nil
 refine c_loop (fun k f w => ∃ (x173 : Int) (l174 : List Int) (a175 : Option Addr) (n176 : Nat) (c177 : Nat) (cs178 : List Value), mg126_l0 fuel p3 k x173 l174 = some r ∧ n176 = l174.length ∧ RCs 1 RInt m cs178 l174 ∧ St w m (.row (.slice a175 n176 c177) 3 1 cs178 :: L) ∧ f 3 = .slice a175 n176 c177 ∧ f 7 = .slice a4 p3.tours.length c6 ∧ f 8 = .int .i64 ((p3.tours.length : Nat) : Int) ∧ f 9 = .int .i64 x173) fuel ⟨0, ([] : List Int), none, 0, 0, [], hM, row_n (hS171.toHeld.own .here) hrc172 (by decide), hrc172, hS171, rfl, rfl, rfl, rfl⟩ ?_
 rintro k_0 f181 w182 ⟨x173, l174, a175, n176, c177, cs178, hM, hn179, hrc180, hS184, e185, e186, e187, e188⟩
 subst hn179
 refine c_know (t := 3) e185 <| c_know (t := 7) e186 <| c_know (t := 8) e187 <| c_know (t := 9) e188 ?_
 clear e185 e186 e187 e188
 rcases k_0 with _ | k_0
 · exact none_ne hM
 rw [mg126_l0] at hM
 refine c_seq <| c_region <| wl_h hS184.toHeld (r_lss (a := _) (b := _) rfl rfl) <| wl_nil <| c_seq <| c_cond (c := _) rfl (fun h189 => ?_) (fun h189 => ?_)
 ·replace hM := bif_t h189 hM
  refine c_skip <| c_seq <| c_block <| c_seq <| c_region ?_
  obtain ⟨x190, hx191, h192, h193, hM⟩ := getK_ok hM
  obtain ⟨b194, o195, rfl⟩ := RSl.elem_a hr7 hx191
  obtain ⟨cs196, hI197, hR198⟩ := RSl.elem_at hr7 hx191
  have hk203 := hR198
  obtain ⟨a199, n200, c201, rfl, hr202⟩ := hR198
  obtain rfl := hr202.1
  refine wl_h hS184.toHeld (r_indexAddr Tryz.underlying77 ty61 (b := _) (o := _) (n := _) (c := _) (i := x173) rfl rfl h192 (RSl.lt hr7 h193)) <| wl_h hS184.toHeld (r_imm ty61 (k := 0) hI197 rfl rfl rfl (v := .agg #[.slice _ _ _, .int .i64 _, .int .i64 _]) rfl) <| wl_alloc ty61 rfl hS184 ?_
  intro b204 w205 hS206
  refine wl_store_box ty61 hS206 rfl (v := .agg #[.slice _ _ _, .int .i64 _, .int .i64 _]) rfl (vs := [.slice _ _ _, .int .i64 _, .int .i64 _]) rfl rfl rfl .here (cs' := [.slice _ _ _, .int .i64 _, .int .i64 _]) rfl rfl ?_
  intro w207 hS208
  refine wl_nil <| c_region <| wl_h hS208.toHeld (r_move (v := .slice _ _ _) rfl) <| wl_h hS208.toHeld (r_fieldAddr fld61_0 (b := _) (o := _) rfl) <| wl_h hS208.toHeld (r_box ty26 (k := 0) .here rfl rfl rfl (v := .slice _ _ _) rfl) ?_
  obtain ⟨hc209, hM⟩ := chk_ok hM
  obtain ⟨cs210, hq211, hrc212⟩ := RSl.cells RInt.one (by decide) hr202 hS208.toHeld
  refine wl_append_src Tryz.underlying26 ty3 rfl (by decide) hS208 (a := _) (nn := _) (c := _) rfl (a2 := _) (k2 := _) (c2 := _) rfl (.there .here) hq211 (lim_b hc209 rfl) (lim_a hc209) ?_
  intro a213 c214 w215 hS216
  have hrc218 := RCs.append hrc180 hrc212
  generalize cs178 ++ cs210 = cs219 at hS216 hrc218
  refine wl_buildSlice Tryz.underlying26 ty3 rfl (by decide) (by decide) hS216 (ps := [(0, [.int .i64 _])]) rfl rfl (cs := [.int .i64 _]) rfl rfl (by decide) ?_
  intro b221 w222 hS223
  have hrc224 : RCs 1 RInt m [.int .i64 (-1)] ([(-1)] : List Int) := (RCs.cons (d := [.int .i64 (-1)]) rfl rfl RCs.nil)
  obtain ⟨hc225, hM⟩ := chk_ok hM
  refine wl_append_src Tryz.underlying26 ty3 rfl (by decide) hS223 (a := _) (nn := _) (c := _) rfl (a2 := _) (k2 := _) (c2 := _) rfl (.there .here) (row_src (hS223.toHeld.own .here) (RCs.allOne RInt.one (by decide) hrc224)) (lim_b hc225 rfl) (lim_a hc225) ?_
  intro a226 c227 w228 hS229
  have hrc231 := RCs.append hrc218 hrc224
  generalize cs219 ++ [.int .i64 (-1)] = cs232 at hS229 hrc231
  have hS233 := hS229.weaken (.cons_cons _ (.cons _ (.cons_cons _ (.refl _))))
  refine wl_h hS233.toHeld (r_assign (v := .slice _ _ _) rfl) <| wl_nil <| c_nil <| q_norm <| c_region ?_
  obtain ⟨hc234, hM⟩ := chk_ok hM
  refine wl_h hS233.toHeld (r_add (a := _) (b := _) rfl rfl (ok_lo hc234) (ok_hi hc234)) <| wl_h hS233.toHeld (r_move (v := .int .i64 _) rfl) <| wl_nil <| c_nil <| q_loop ?_
  have hS235 := hS233.weaken (.cons_cons _ (.cons _ (.refl _)))
  exact ⟨k_0, Nat.lt_succ_self _, x173 + 1, ((l174 ++ x190.stops) ++ [(-1)]), a226, ((l174.length + x190.stops.length) + 1), c227, cs232, hM, row_n (hS235.toHeld.own .here) hrc231 (by decide), hrc231, hS235, rfl, rfl, rfl, rfl⟩
 ·replace hM := bif_f h189 hM
  refine c_exit <| q_loopx <| q_hit <| c_seq <| c_region <| wl_h hS184.toHeld (r_move (v := .slice _ _ _) rfl) ?_
  refine wl_h hS184.toHeld (r_assign (v := .slice _ _ _) rfl) <| wl_nil <| c_ret <| ret_tmp (t := 2) rfl (v := .slice _ _ _) rfl ?_
  obtain rfl := some_eq hM
  exact ⟨a175, l174.length, c177, cs178, rfl, row_n (hS184.toHeld.own .here) hrc180 (by decide), hrc180, hS184⟩

theorem cg87 {m : Mem} {L : List Atom} {w : World} {cs1 : List Value} {p3 : Plan} {cs9 : List Value} {q11 : Plan} (hS : St w m L) (hx2 : RPlan m cs1 p3) (hx10 : RPlan m cs9 q11) {fuel : Nat} {r : Bool} (hM : mg87 fuel p3 q11 = some r) : Calls P0 87 [.agg cs1.toArray, .agg cs9.toArray].toArray w (Ret fun v w' => v = .bool r ∧ St w' m (L)) := by
 rw [mg87] at hM
 have hk8 := hx2
 obtain ⟨a4, n5, c6, rfl, hr7⟩ := hx2
 obtain rfl := hr7.1
 have hk16 := hx10
 obtain ⟨a12, n13, c14, rfl, hr15⟩ := hx10
 obtain rfl := hr15.1
 refine enter Tryz.func87 rfl Tryz.ntmps87 (Nat.le_of_ble_eq_true rfl) ?_
 refine c_seq <| c_region <| wl_box hS (v := .agg #[.bool _, .slice _ _ _, .int .i64 _]) rfl (cs := [.bool _, .slice _ _ _, .int .i64 _]) rfl ?_
 intro b17 w18 hS19
 refine wl_box hS19 (v := .agg #[.bool _, .slice _ _ _, .int .i64 _]) rfl (cs := [.bool _, .slice _ _ _, .int .i64 _]) rfl ?_
 intro b20 w21 hS22
 refine wl_h hS22.toHeld (r_assign (v := .bool _) rfl) <| wl_nil <| c_seq <| c_block <| c_seq <| c_region <| wl_h hS22.toHeld (r_fieldAddr fld143_1 (b := _) (o := _) rfl) ?_
 refine wl_h hS22.toHeld (r_box ty77 (k := 1) (.there .here) rfl rfl rfl (v := .slice _ _ _) rfl) <| wl_h hS22.toHeld (r_len Tryz.underlying77 (a := _) (n := _) (c := _) rfl) <| wl_h hS22.toHeld (r_fieldAddr fld143_1 (b := _) (o := _) rfl) <| wl_h hS22.toHeld (r_box ty77 (k := 1) .here rfl rfl rfl (v := .slice _ _ _) rfl) <| wl_h hS22.toHeld (r_len Tryz.underlying77 (a := _) (n := _) (c := _) rfl) ?_
 refine wl_h hS22.toHeld (r_neq (a := _) (b := _) rfl rfl) <| wl_h hS22.toHeld (r_assign (v := .bool _) rfl) <| wl_nil <| c_cond (c := _) rfl (fun h23 => ?_) (fun h23 => ?_)
 ·replace hM := bif_t h23 hM
  refine c_seq <| c_region <| wl_h hS22.toHeld (r_fieldAddr fld143_1 (b := _) (o := _) rfl) <| wl_h hS22.toHeld (r_box ty77 (k := 1) (.there .here) rfl rfl rfl (v := .slice _ _ _) rfl) <| wl_h hS22.toHeld (r_len Tryz.underlying77 (a := _) (n := _) (c := _) rfl) ?_
  refine wl_h hS22.toHeld (r_fieldAddr fld143_1 (b := _) (o := _) rfl) <| wl_h hS22.toHeld (r_box ty77 (k := 1) .here rfl rfl rfl (v := .slice _ _ _) rfl) <| wl_h hS22.toHeld (r_len Tryz.underlying77 (a := _) (n := _) (c := _) rfl) <| wl_h hS22.toHeld (r_lss (a := _) (b := _) rfl rfl) <| wl_h hS22.toHeld (r_assign (v := .bool _) rfl) ?_
  refine wl_nil <| c_ret <| q_retb <| ret_tmp (t := 4) rfl (v := .bool _) rfl ?_
  obtain rfl := some_eq hM
  have hS24 := hS22.weaken (.cons _ (.cons _ (.refl _)))
  exact ⟨rfl, hS24⟩
 ·replace hM := bif_f h23 hM
  refine c_seq <| c_region <| wl_h hS22.toHeld (r_fieldAddr fld143_2 (b := _) (o := _) rfl) <| wl_h hS22.toHeld (r_box ty3 (k := 2) (.there .here) rfl rfl rfl (v := .int .i64 _) rfl) <| wl_h hS22.toHeld (r_fieldAddr fld143_2 (b := _) (o := _) rfl) ?_
  refine wl_h hS22.toHeld (r_box ty3 (k := 2) .here rfl rfl rfl (v := .int .i64 _) rfl) <| wl_h hS22.toHeld (r_neq (a := _) (b := _) rfl rfl) <| wl_h hS22.toHeld (r_assign (v := .bool _) rfl) <| wl_nil <| c_cond (c := _) rfl (fun h25 => ?_) (fun h25 => ?_)
  ·replace hM := bif_t h25 hM
   refine c_seq <| c_region <| wl_h hS22.toHeld (r_fieldAddr fld143_2 (b := _) (o := _) rfl) <| wl_h hS22.toHeld (r_box ty3 (k := 2) (.there .here) rfl rfl rfl (v := .int .i64 _) rfl) <| wl_h hS22.toHeld (r_fieldAddr fld143_2 (b := _) (o := _) rfl) ?_
   refine wl_h hS22.toHeld (r_box ty3 (k := 2) .here rfl rfl rfl (v := .int .i64 _) rfl) <| wl_h hS22.toHeld (r_lss (a := _) (b := _) rfl rfl) <| wl_h hS22.toHeld (r_assign (v := .bool _) rfl) <| wl_nil <| c_ret <| q_retb ?_
   refine ret_tmp (t := 4) rfl (v := .bool _) rfl ?_
   obtain rfl := some_eq hM
   have hS26 := hS22.weaken (.cons _ (.cons _ (.refl _)))
   exact ⟨rfl, hS26⟩
  ·replace hM := bif_f h25 hM
   refine c_skip <| c_nil <| q_norm <| c_seq ?_
   have hH75 := (hS22.weaken (.cons_cons _ (.cons_cons _ (.refl _)))).toHeld
   refine c_draw (k := 7) (fun w => Held w m (.box b20 143 [.bool q11.ok, .slice a12 q11.tours.length c14, .int .i64 q11.takes] :: .box b17 143 [.bool p3.ok, .slice a4 p3.tours.length c6, .int .i64 p3.takes] :: L)) mixed rfl ?_
   replace hH75 := hH75.drew1
   have hS76 := hS22.drew1
   refine d_v (i := 0) rfl (by kernel_rfl) rfl (r_box ty143 (k := 0) (.there .here) rfl rfl rfl (v := .agg #[.bool _, .slice _ _ _, .int .i64 _]) rfl) hH75 ?_
   refine d_v (i := 2) rfl (by kernel_rfl) rfl (r_box ty143 (k := 0) .here rfl rfl rfl (v := .agg #[.bool _, .slice _ _ _, .int .i64 _]) rfl) hH75 ?_
   refine d_all (rs := [1]) (by kernel_rfl) (by simp) (fun j hj o ho => ?_)
   obtain rfl : j = 1 := by simpa using hj
   cases ho
   obtain ⟨r77, hq78, hM⟩ := bnd_ok hM
   refine wl_call ent126 (vals := [.agg #[.bool _, .slice _ _ _, .int .i64 _]]) rfl (cg126 hS76 hk8 hq78) ?_
   rintro _ w86 ⟨a80, n81, c82, cs83, rfl, rfl, hrc84, hS87⟩
   refine wl_nil ?_
   have hH88 := hS87.toHeld.mono (Mem.le_refl _) (List.Sublist.subset (.cons _ (.cons_cons _ (.cons_cons _ (.refl _)))))
   refine ⟨hH88, ?_⟩
   refine d_all (rs := [3]) (by kernel_rfl) (by simp) (fun j hj o ho => ?_)
   obtain rfl : j = 3 := by simpa using hj
   cases ho
   obtain ⟨r89, hq90, hM⟩ := bnd_ok hM
   refine wl_call ent126 (vals := [.agg #[.bool _, .slice _ _ _, .int .i64 _]]) rfl (cg126 hS87 hk16 hq90) ?_
   rintro _ w98 ⟨a92, n93, c94, cs95, rfl, rfl, hrc96, hS99⟩
   refine wl_nil ?_
   have hH100 := hS99.toHeld.mono (Mem.le_refl _) (List.Sublist.subset (.cons _ (.cons _ (.cons_cons _ (.cons_cons _ (.refl _))))))
   refine ⟨hH100, ?_⟩
   refine d_all (rs := [4]) (by kernel_rfl) (by simp) (fun j hj o ho => ?_)
   obtain rfl : j = 4 := by simpa using hj
   cases ho
   obtain ⟨m101, hm102, hS103, hr104, back105⟩ := hS99.lend (.there .here) hrc84 RInt.mono (by decide)
   have le106 := hm102
   have hrc107 := RCs.mono RInt.mono hrc96 hm102
   obtain ⟨m108, hm109, hS110, hr111, back112⟩ := hS103.lend .here hrc107 RInt.mono (by decide)
   have le113 := Mem.le_trans le106 hm109
   have hr114 := RSl.mono RInt.mono hr104 hm109
   obtain ⟨r115, hq116, hM⟩ := bnd_ok hM
   refine wl_call ent125 (vals := [.slice _ _ _, .slice _ _ _]) rfl (cg125 hS110 hr114 hr111 hq116) ?_
   rintro _ w118 ⟨rfl, hS119⟩
   have hS120 := back112 _ _ hS119
   have hS121 := back105 _ _ hS120
   refine wl_nil ?_
   have hH122 := hS121.toHeld.mono (Mem.le_refl _) (List.Sublist.subset (.cons _ (.cons _ (.cons_cons _ (.cons_cons _ (.refl _))))))
   refine ⟨hH122, ?_⟩
   refine d_v (i := 5) rfl (by kernel_rfl) rfl (r_lss (a := _) (b := _) rfl rfl) hH122 ?_
   refine d_v (i := 6) rfl (by kernel_rfl) rfl (r_assign (v := .bool _) rfl) hH122 ?_
   refine d_end (by kernel_rfl) ?_
   refine c_ret <| ret_tmp (t := 4) rfl (v := .bool _) rfl ?_
   obtain rfl := some_eq hM
   have hS123 := hS121.weaken (.cons _ (.cons _ (.cons _ (.cons _ (.refl _)))))
   exact ⟨rfl, hS123⟩

theorem cg93 {m : Mem} {L : List Atom} {w : World} (hS : St w m L) {set1 : Int} : Calls P0 93 [.int .i64 set1].toArray w (Ret fun v w' => ∃ b, v = .func (.func 128) #[] #[.pointer (some ⟨b, 0, none⟩)] ∧ St w' m (.box b 3 [.int .i64 set1] :: L)) := by
 refine enter Tryz.func93 rfl Tryz.ntmps93 (Nat.le_of_ble_eq_true rfl) ?_
 refine c_seq <| c_region <| wl_box hS (v := .int .i64 _) rfl (cs := [.int .i64 _]) rfl ?_
 intro b2 w3 hS4
 refine wl_h hS4.toHeld (r_assign (v := .nilFunc) rfl) <| wl_nil <| c_seq <| c_region <| wl_h hS4.toHeld (r_makeFunc (vs := [.pointer (some ⟨_, _, none⟩)]) rfl) ?_
 refine wl_h hS4.toHeld (r_assign (v := .func (.func 128) #[] #[.pointer (some ⟨_, _, none⟩)]) rfl) <| wl_nil <| c_ret <| ret_tmp (t := 2) rfl (v := .func (.func 128) #[] #[.pointer (some ⟨_, _, none⟩)]) rfl ?_
 exact ⟨_, rfl, hS4⟩

theorem cg121 {m : Mem} {L : List Atom} {w : World} {set1 : Int} (hS : St w m L)  {fuel : Nat} {r : (List Int)} (hM : mg121 fuel set1 = some r) : Calls P0 121 [.int .i64 set1].toArray w (Ret fun v w' => ∃ (a0 : Option Addr) (n0 : Nat) (c0 : Nat) (cs0 : List Value), v = .slice a0 n0 c0 ∧ n0 = r.length ∧ RCs 1 RInt m cs0 r ∧ St w' m (.row (.slice a0 n0 c0) 3 1 cs0 :: L)) := by
 rw [mg121] at hM
 refine enter Tryz.func121 rfl Tryz.ntmps121 (Nat.le_of_ble_eq_true rfl) ?_
 refine c_seq <| c_region <| wl_h hS.toHeld (r_assign (v := .slice _ _ _) rfl) <| wl_nil <| c_seq <| c_region <| wl_h hS.toHeld (r_assign (v := .slice _ _ _) rfl) ?_
 refine wl_nil <| c_seq <| c_seq <| c_region <| wl_h hS.toHeld (r_assign (v := .int .i64 _) rfl) ?_
 refine wl_nil <| c_block ?_
 have hS82 := hS.nilRow 3 1
 have hrc83 : RCs 1 RInt m [] ([] : List Int) := RCs.nil
 refine c_loop (fun k f w => ∃ (i84 : Int) (l85 : List Int) (a86 : Option Addr) (n87 : Nat) (c88 : Nat) (cs89 : List Value), mg121_l0 fuel set1 k i84 l85 = some r ∧ n87 = l85.length ∧ RCs 1 RInt m cs89 l85 ∧ St w m (.row (.slice a86 n87 c88) 3 1 cs89 :: L) ∧ f 0 = .int .i64 set1 ∧ f 3 = .slice a86 n87 c88 ∧ f 4 = .int .i64 i84) fuel ⟨0, ([] : List Int), none, 0, 0, [], hM, row_n (hS82.toHeld.own .here) hrc83 (by decide), hrc83, hS82, rfl, rfl, rfl⟩ ?_
 rintro k_0 f92 w93 ⟨i84, l85, a86, n87, c88, cs89, hM, hn90, hrc91, hS95, e96, e97, e98⟩
 subst hn90
 refine c_know (t := 0) e96 <| c_know (t := 3) e97 <| c_know (t := 4) e98 ?_
 clear e96 e97 e98
 rcases k_0 with _ | k_0
 · exact none_ne hM
 rw [mg121_l0] at hM
 refine c_seq <| c_seq <| c_region <| wl_h hS95.toHeld (r_move (v := .int .i64 _) rfl) <| wl_h hS95.toHeld (r_move (v := .int .i64 _) rfl) ?_
 obtain ⟨hc99, hM⟩ := chk_ok hM
 refine wl_h hS95.toHeld (r_shr (a := _) (b := _) rfl rfl hc99) <| wl_h hS95.toHeld (r_gtr (a := _) (b := _) rfl rfl) <| wl_nil <| c_cond (c := _) rfl (fun h100 => ?_) (fun h100 => ?_)
 ·replace hM := bif_t h100 hM
  refine c_skip <| c_seq <| c_block <| c_seq <| c_region <| wl_h hS95.toHeld (r_move (v := .int .i64 _) rfl) ?_
  refine wl_h hS95.toHeld (r_move (v := .int .i64 _) rfl) ?_
  obtain ⟨hc101, hM⟩ := chk_ok hM
  refine wl_h hS95.toHeld (r_shr (a := _) (b := _) rfl rfl hc101) <| wl_h hS95.toHeld (r_and (a := _) (b := _) rfl rfl) <| wl_h hS95.toHeld (r_eql (a := _) (b := _) rfl rfl) <| wl_nil <| c_cond (c := _) rfl (fun h102 => ?_) (fun h102 => ?_)
  ·replace hM := bif_t h102 hM
   refine c_region <| wl_h hS95.toHeld (r_move (v := .slice _ _ _) rfl) <| wl_h hS95.toHeld (r_move (v := .int .i64 _) rfl) <| wl_buildSlice Tryz.underlying26 ty3 rfl (by decide) (by decide) hS95 (ps := [(0, [.int .i64 _])]) rfl rfl (cs := [.int .i64 _]) rfl rfl (by decide) ?_
   intro b104 w105 hS106
   have hrc107 : RCs 1 RInt m [.int .i64 i84] ([i84] : List Int) := (RCs.cons (d := [.int .i64 i84]) rfl rfl RCs.nil)
   obtain ⟨hc108, hM⟩ := chk_ok hM
   refine wl_append_src Tryz.underlying26 ty3 rfl (by decide) hS106 (a := _) (nn := _) (c := _) rfl (a2 := _) (k2 := _) (c2 := _) rfl (.there .here) (row_src (hS106.toHeld.own .here) (RCs.allOne RInt.one (by decide) hrc107)) (lim_b hc108 rfl) (lim_a hc108) ?_
   intro a109 c110 w111 hS112
   have hrc114 := RCs.append hrc91 hrc107
   generalize cs89 ++ [.int .i64 i84] = cs115 at hS112 hrc114
   have hS116 := hS112.weaken (.cons_cons _ (.cons _ (.refl _)))
   refine wl_h hS116.toHeld (r_assign (v := .slice _ _ _) rfl) <| wl_nil <| c_nil <| q_norm <| c_region <| wl_h hS116.toHeld (r_move (v := .int .i64 _) rfl) ?_
   obtain ⟨hc117, hM⟩ := chk_ok hM
   refine wl_h hS116.toHeld (r_add (a := _) (b := _) rfl rfl (ok_lo hc117) (ok_hi hc117)) <| wl_h hS116.toHeld (r_assign (v := .int .i64 _) rfl) <| wl_nil <| c_nil <| q_loop ?_
   exact ⟨k_0, Nat.lt_succ_self _, i84 + 1, (l85 ++ [i84]), a109, (l85.length + 1), c110, cs115, hM, row_n (hS116.toHeld.own .here) hrc114 (by decide), hrc114, hS116, rfl, rfl, rfl⟩
  ·replace hM := bif_f h102 hM
   refine c_skip <| c_nil <| q_norm <| c_region <| wl_h hS95.toHeld (r_move (v := .int .i64 _) rfl) ?_
   obtain ⟨hc118, hM⟩ := chk_ok hM
   refine wl_h hS95.toHeld (r_add (a := _) (b := _) rfl rfl (ok_lo hc118) (ok_hi hc118)) <| wl_h hS95.toHeld (r_assign (v := .int .i64 _) rfl) <| wl_nil <| c_nil <| q_loop ?_
   exact ⟨k_0, Nat.lt_succ_self _, i84 + 1, l85, a86, l85.length, c88, cs89, hM, row_n (hS95.toHeld.own .here) hrc91 (by decide), hrc91, hS95, rfl, rfl, rfl⟩
 ·replace hM := bif_f h100 hM
  refine c_exit <| q_loopx <| q_hit <| c_seq <| c_region <| wl_h hS95.toHeld (r_move (v := .slice _ _ _) rfl) ?_
  refine wl_h hS95.toHeld (r_assign (v := .slice _ _ _) rfl) <| wl_nil <| c_ret <| ret_tmp (t := 2) rfl (v := .slice _ _ _) rfl ?_
  obtain rfl := some_eq hM
  exact ⟨a86, l85.length, c88, cs89, rfl, row_n (hS95.toHeld.own .here) hrc91 (by decide), hrc91, hS95⟩

theorem cg116 {m : Mem} {L : List Atom} {w : World} {cs1 : List Value} {f3 : Fleet} (hS : St w m L) (hx2 : RFleet m cs1 f3) {fuel : Nat} {r : (List Tour)} (hM : mg116 fuel f3 = some r) : Calls P0 116 [.agg cs1.toArray].toArray w (Ret fun v w' => ∃ (m' : Mem) (a0 : Option Addr) (n0 : Nat) (c0 : Nat) (cs0 : List Value), v = .slice a0 n0 c0 ∧ m ≤ m' ∧ n0 = r.length ∧ RCs 3 RTour m' cs0 r ∧ St w' m' (.row (.slice a0 n0 c0) 61 3 cs0 :: L)) := by
 rw [mg116] at hM
 have hk12 := hx2
 obtain ⟨a4, n5, c6, a8, n9, c10, rfl, hr7, hr11⟩ := hx2
 obtain rfl := hr7.1
 obtain rfl := hr11.1
 refine enter Tryz.func116 rfl Tryz.ntmps116 (Nat.le_of_ble_eq_true rfl) ?_
 refine c_seq <| c_region <| wl_box hS (v := .agg #[.slice _ _ _, .slice _ _ _, .int .i64 _, .int .i64 _, .int .i64 _]) rfl (cs := [.slice _ _ _, .slice _ _ _, .int .i64 _, .int .i64 _, .int .i64 _]) rfl ?_
 intro b13 w14 hS15
 refine wl_h hS15.toHeld (r_assign (v := .slice _ _ _) rfl) <| wl_nil <| c_seq <| c_region <| wl_h hS15.toHeld (r_fieldAddr fld25_0 (b := _) (o := _) rfl) ?_
 refine wl_h hS15.toHeld (r_box ty22 (k := 0) .here rfl rfl rfl (v := .slice _ _ _) rfl) <| wl_h hS15.toHeld (r_len Tryz.underlying22 (a := _) (n := _) (c := _) rfl) ?_
 obtain ⟨hc16, hM⟩ := chk_ok hM
 refine wl_h hS15.toHeld (r_shl (a := _) (b := _) rfl rfl hc16) ?_
 obtain ⟨hc19, hM⟩ := chk_ok hM
 refine wl_makeSlice Tryz.underlying178 ty61 rfl (by decide) hS15 (l := _) (c := _) rfl rfl (mk_0 hc19) (mk_1 hc19) (mk_2 hc19 (by decide)) (mk_3 hc19) ?_
 intro b17 w18 hS20
 have hrc22 : RCs 3 RTour m (reps [.slice none 0 0, .int .i64 0, .int .i64 0] (ishl 1 ((f3.stops.length : Nat) : Int)).toNat) ((List.replicate (ishl 1 ((f3.stops.length : Nat) : Int)).toNat (⟨[], 0, 0⟩ : Tour) : List Tour) : List Tour) := RCs.reps rfl ⟨_, _, _, rfl, RSl.nil⟩ _
 refine wl_h hS20.toHeld (r_assign (v := .slice _ _ _) rfl) <| wl_nil <| c_seq <| c_seq <| c_region <| wl_h hS20.toHeld (r_move (v := .slice _ _ _) rfl) ?_
 refine wl_h hS20.toHeld (r_len Tryz.underlying178 (a := _) (n := _) (c := _) rfl) <| wl_h hS20.toHeld (r_move (v := .int .i64 _) rfl) <| wl_nil <| c_block <| c_loop (fun k f w => ∃ (x250 : Int) (l251 : List Tour) (m247 : Mem) (a252 : Option Addr) (n253 : Nat) (c254 : Nat) (cs255 : List Value), mg116_l0 fuel f3 k x250 l251 = some r ∧ m ≤ m247 ∧ n253 = l251.length ∧ RCs 3 RTour m247 cs255 l251 ∧ St w m247 (.row (.slice a252 n253 c254) 61 3 cs255 :: .box b13 25 [.slice a4 f3.stops.length c6, .slice a8 f3.minutes.length c10, .int .i64 f3.cap, .int .i64 f3.start, .int .i64 f3.back] :: L) ∧ f 1 = .pointer (some ⟨b13, 0, none⟩) ∧ f 3 = .slice a252 n253 c254 ∧ f 11 = .int .i64 (((ishl 1 ((f3.stops.length : Nat) : Int)).toNat : Nat) : Int) ∧ f 12 = .int .i64 x250) fuel ⟨0, (List.replicate (ishl 1 ((f3.stops.length : Nat) : Int)).toNat (⟨[], 0, 0⟩ : Tour) : List Tour), m, (some ⟨b17, 0, none⟩), (ishl 1 ((f3.stops.length : Nat) : Int)).toNat, (ishl 1 ((f3.stops.length : Nat) : Int)).toNat, reps [.slice none 0 0, .int .i64 0, .int .i64 0] (ishl 1 ((f3.stops.length : Nat) : Int)).toNat, hM, Mem.le_refl _, row_n (hS20.toHeld.own .here) hrc22 (by decide), hrc22, hS20, rfl, rfl, rfl, rfl⟩ ?_
 rintro k_0 f258 w259 ⟨x250, l251, m247, a252, n253, c254, cs255, hM, hm248, hn256, hrc257, hS261, e262, e263, e264, e265⟩
 replace hk12 := RFleet.mono _ _ _ _ hk12 hm248
 replace hr7 := RSl.mono RStop.mono hr7 hm248
 replace hr11 := RSl.mono (RS.mono RInt.mono) hr11 hm248
 replace hrc22 := RCs.mono RTour.mono hrc22 hm248
 have le249 := hm248
 subst hn256
 refine c_know (t := 1) e262 <| c_know (t := 3) e263 <| c_know (t := 11) e264 <| c_know (t := 12) e265 ?_
 clear e262 e263 e264 e265
 rcases k_0 with _ | k_0
 · exact none_ne hM
 rw [mg116_l0] at hM
 refine c_seq <| c_region <| wl_h hS261.toHeld (r_lss (a := _) (b := _) rfl rfl) <| wl_nil <| c_seq <| c_cond (c := _) rfl (fun h266 => ?_) (fun h266 => ?_)
 ·replace hM := bif_t h266 hM
  refine c_skip <| c_seq <| c_block <| c_seq <| c_region <| wl_h hS261.toHeld (r_move (v := .int .i64 _) rfl) ?_
  refine wl_h hS261.toHeld (r_assign (v := .int .i64 _) rfl) <| wl_nil <| c_seq <| c_region <| wl_h hS261.toHeld (r_move (v := .int .i64 _) rfl) ?_
  refine wl_h hS261.toHeld (r_gtr (a := _) (b := _) rfl rfl) <| wl_nil <| c_cond (c := _) rfl (fun h267 => ?_) (fun h267 => ?_)
  ·replace hM := bif_t h267 hM
   have hH320 := (hS261.weaken (.cons _ (.cons_cons _ (.refl _)))).toHeld
   refine c_draw (k := 11) (fun w => Held w m247 (.box b13 25 [.slice a4 f3.stops.length c6, .slice a8 f3.minutes.length c10, .int .i64 f3.cap, .int .i64 f3.start, .int .i64 f3.back] :: L)) mixed rfl ?_
   replace hH320 := hH320.drew1
   have hS321 := hS261.drew1
   refine d_v (i := 0) rfl (by kernel_rfl) rfl (r_move (v := .slice _ _ _) rfl) hH320 ?_
   refine d_v (i := 1) rfl (by kernel_rfl) rfl (r_move (v := .int .i64 _) rfl) hH320 ?_
   refine d_v (i := 2) rfl (by kernel_rfl) rfl (r_box ty25 (k := 0) .here rfl rfl rfl (v := .agg #[.slice _ _ _, .slice _ _ _, .int .i64 _, .int .i64 _, .int .i64 _]) rfl) hH320 ?_
   refine d_v (i := 3) rfl (by kernel_rfl) rfl (r_move (v := .int .i64 _) rfl) hH320 ?_
   refine d_all (rs := [4]) (by kernel_rfl) (by simp) (fun j hj o ho => ?_)
   obtain rfl : j = 4 := by simpa using hj
   cases ho
   obtain ⟨r322, hq323, hM⟩ := bnd_ok hM
   refine wl_call ent121 (vals := [.int .i64 _]) rfl (cg121 hS321 hq323) ?_
   rintro _ w331 ⟨a325, n326, c327, cs328, rfl, rfl, hrc329, hS332⟩
   refine wl_nil ?_
   have hH333 := hS332.toHeld.mono (Mem.le_refl _) (List.Sublist.subset (.cons _ (.cons _ (.cons_cons _ (.refl _)))))
   refine ⟨hH333, ?_⟩
   refine d_all (rs := [5]) (by kernel_rfl) (by simp) (fun j hj o ho => ?_)
   obtain rfl : j = 5 := by simpa using hj
   cases ho
   obtain ⟨m334, hm335, hS336, hr337⟩ := hS332.freezeR .here hrc329 RInt.mono (by decide)
   have le339 := Mem.le_trans le249 hm335
   have le340 := hm335
   replace hk12 := RFleet.mono _ _ _ _ hk12 hm335
   replace hr7 := RSl.mono RStop.mono hr7 hm335
   replace hr11 := RSl.mono (RS.mono RInt.mono) hr11 hm335
   replace hrc22 := RCs.mono RTour.mono hrc22 hm335
   replace hrc257 := RCs.mono RTour.mono hrc257 hm335
   replace hrc329 := RCs.mono RInt.mono hrc329 hm335
   obtain ⟨r341, hq342, hM⟩ := bnd_ok hM
   refine wl_call ent72 (vals := [.agg #[.slice _ _ _, .slice _ _ _, .int .i64 _, .int .i64 _, .int .i64 _], .slice _ _ _]) rfl (cg72 hS336 hk12 hr337 hq342) ?_
   rintro _ w349 ⟨m343, a345, n346, c347, rfl, hm344, hr348, hS350⟩
   obtain rfl := hr348.1
   have le351 := Mem.le_trans le339 hm344
   have le352 := Mem.le_trans le340 hm344
   replace hk12 := RFleet.mono _ _ _ _ hk12 hm344
   replace hr7 := RSl.mono RStop.mono hr7 hm344
   replace hr11 := RSl.mono (RS.mono RInt.mono) hr11 hm344
   replace hrc22 := RCs.mono RTour.mono hrc22 hm344
   replace hrc257 := RCs.mono RTour.mono hrc257 hm344
   replace hrc329 := RCs.mono RInt.mono hrc329 hm344
   replace hr337 := RSl.mono RInt.mono hr337 hm344
   refine wl_nil ?_
   have hH353 := hS350.toHeld.mono le352 (List.Sublist.subset (.cons _ (.cons_cons _ (.refl _))))
   refine ⟨hH353, ?_⟩
   refine d_v (i := 6) rfl (by kernel_rfl) rfl (r_move (v := .tuple #[.agg #[.slice _ _ _, .int .i64 _, .int .i64 _], .bool _]) rfl) hH353 ?_
   refine d_v (i := 7) rfl (by kernel_rfl) rfl (r_extract (vs := [.agg #[.slice _ _ _, .int .i64 _, .int .i64 _], .bool _]) rfl (v := .agg #[.slice _ _ _, .int .i64 _, .int .i64 _]) rfl) hH353 ?_
   refine d_v (i := 8) rfl (by kernel_rfl) rfl (r_extract (vs := [.agg #[.slice _ _ _, .int .i64 _, .int .i64 _], .bool _]) rfl (v := .bool _) rfl) hH353 ?_
   obtain ⟨x354, hx355, h356, h357, hM⟩ := getK_ok hM
   obtain ⟨b358, rfl⟩ := row_some (hS350.toHeld.own .here) hrc257 (by decide) h356 h357
   obtain ⟨es359, hes360, hR361⟩ := row_read hrc257 hx355
   have hk366 := hR361
   obtain ⟨a362, n363, c364, rfl, hr365⟩ := hR361
   obtain rfl := hr365.1
   refine d_v (i := 9) rfl (by kernel_rfl) rfl (r_indexAddr Tryz.underlying178 ty61 (b := _) (o := _) (n := _) (c := _) (i := x250) rfl rfl h356 (row_lt (hS350.toHeld.own .here) hrc257 (by decide) h357)) hH353 ?_
   refine d_all (rs := [10]) (by kernel_rfl) (by simp) (fun j hj o ho => ?_)
   obtain rfl : j = 10 := by simpa using hj
   cases ho
   refine wl_store_row ty61 hS350 rfl (v := .agg #[.slice _ _ _, .int .i64 _, .int .i64 _]) rfl (vs := [.slice _ _ _, .int .i64 _, .int .i64 _]) rfl rfl rfl .here (Nat.le_trans (by simp only [Nat.zero_add]; omega) (row_room hrc257 hx355)) ?_
   intro w367 hS368
   have hrc369 := RCs.seti hrc257 hx355 (vs := [.slice a345 r341.1.stops.length c347, .int .i64 r341.1.leave, .int .i64 r341.1.fin]) (y := (⟨r341.1.stops, r341.1.leave, r341.1.fin⟩ : Tour)) rfl ⟨_, _, _, rfl, hr348⟩
   generalize spl cs255 (0 + x250.toNat * 3) [.slice a345 r341.1.stops.length c347, .int .i64 r341.1.leave, .int .i64 r341.1.fin] = cs370 at hS368 hrc369
   refine wl_nil ?_
   have hH371 := hS368.toHeld.mono le352 (List.Sublist.subset (.cons _ (.cons_cons _ (.refl _))))
   refine ⟨hH371, ?_⟩
   refine d_end (by kernel_rfl) ?_
   refine c_nil <| q_norm <| c_region ?_
   obtain ⟨hc372, hM⟩ := chk_ok hM
   refine wl_h hS368.toHeld (r_add (a := _) (b := _) rfl rfl (ok_lo hc372) (ok_hi hc372)) <| wl_h hS368.toHeld (r_move (v := .int .i64 _) rfl) <| wl_nil <| c_nil <| q_loop ?_
   exact ⟨k_0, Nat.lt_succ_self _, x250 + 1, (l251.set x250.toNat (⟨r341.1.stops, r341.1.leave, r341.1.fin⟩ : Tour)), m343, (some ⟨b358, 0, none⟩), l251.length, c254, cs370, hM, le351, row_n (hS368.toHeld.own .here) hrc369 (by decide), hrc369, hS368, rfl, rfl, rfl, rfl⟩
  ·replace hM := bif_f h267 hM
   refine c_skip <| c_nil <| q_norm <| c_region ?_
   obtain ⟨hc373, hM⟩ := chk_ok hM
   refine wl_h hS261.toHeld (r_add (a := _) (b := _) rfl rfl (ok_lo hc373) (ok_hi hc373)) <| wl_h hS261.toHeld (r_move (v := .int .i64 _) rfl) <| wl_nil <| c_nil <| q_loop ?_
   exact ⟨k_0, Nat.lt_succ_self _, x250 + 1, l251, m247, a252, l251.length, c254, cs255, hM, le249, row_n (hS261.toHeld.own .here) hrc257 (by decide), hrc257, hS261, rfl, rfl, rfl, rfl⟩
 ·replace hM := bif_f h266 hM
  refine c_exit <| q_loopx <| q_hit <| c_seq <| c_region <| wl_h hS261.toHeld (r_move (v := .slice _ _ _) rfl) ?_
  refine wl_h hS261.toHeld (r_assign (v := .slice _ _ _) rfl) <| wl_nil <| c_ret <| ret_tmp (t := 2) rfl (v := .slice _ _ _) rfl ?_
  obtain rfl := some_eq hM
  have hS374 := hS261.weaken (.cons_cons _ (.cons _ (.refl _)))
  exact ⟨m247, a252, l251.length, c254, cs255, rfl, le249, row_n (hS374.toHeld.own .here) hrc257 (by decide), hrc257, hS374⟩

theorem cg117 {m : Mem} {L : List Atom} {w : World} {a1 : Option Addr} {n2 c3 : Nat} {t5 : List Tour} {set6 : Int} (hS : St w m L) (hr4 : RSl 3 RTour m a1 n2 c3 t5) {fuel : Nat} {r : Tour} (hM : mg117 fuel t5 set6 = some r) : Calls P0 117 [.slice a1 n2 c3, .int .i64 set6].toArray w (Ret fun v w' => ∃ (a0 : Option Addr) (n0 : Nat) (c0 : Nat), v = .agg #[.slice a0 n0 c0, .int .i64 r.leave, .int .i64 r.fin] ∧ RSl 1 RInt m a0 n0 c0 r.stops ∧ St w' m (L)) := by
 rw [mg117] at hM
 obtain rfl := hr4.1
 refine enter Tryz.func117 rfl Tryz.ntmps117 (Nat.le_of_ble_eq_true rfl) ?_
 refine c_seq <| c_region <| wl_alloc ty61 rfl hS ?_
 intro b7 w8 hS9
 refine wl_nil <| c_seq <| c_region <| wl_h hS9.toHeld (r_move (v := .slice _ _ _) rfl) <| wl_h hS9.toHeld (r_move (v := .int .i64 _) rfl) ?_
 obtain ⟨x10, hx11, h12, h13, hM⟩ := getK_ok hM
 obtain ⟨b14, o15, rfl⟩ := RSl.elem_a hr4 hx11
 obtain ⟨cs16, hI17, hR18⟩ := RSl.elem_at hr4 hx11
 have hk23 := hR18
 obtain ⟨a19, n20, c21, rfl, hr22⟩ := hR18
 obtain rfl := hr22.1
 refine wl_h hS9.toHeld (r_indexAddr Tryz.underlying178 ty61 (b := _) (o := _) (n := _) (c := _) (i := set6) rfl rfl h12 (RSl.lt hr4 h13)) <| wl_h hS9.toHeld (r_imm ty61 (k := 0) hI17 rfl rfl rfl (v := .agg #[.slice _ _ _, .int .i64 _, .int .i64 _]) rfl) <| wl_store_box ty61 hS9 rfl (v := .agg #[.slice _ _ _, .int .i64 _, .int .i64 _]) rfl (vs := [.slice _ _ _, .int .i64 _, .int .i64 _]) rfl rfl rfl .here (cs' := [.slice _ _ _, .int .i64 _, .int .i64 _]) rfl rfl ?_
 intro w24 hS25
 refine wl_nil <| c_ret <| ret_many rfl (.cell (v := .agg #[.slice _ _ _, .int .i64 _, .int .i64 _]) rfl (ty61.run_loadVar (cs := [.slice _ _ _, .int .i64 _, .int .i64 _]) (box_at (hS25.toHeld.own .here)) rfl) .nil) ?_
 obtain rfl := some_eq hM
 have hS26 := hS25.weaken (.cons _ (.refl _))
 exact ⟨a19, x10.stops.length, c21, rfl, hr22, hS26⟩

theorem cg118 {m : Mem} {L : List Atom} {w : World} {a1 : Option Addr} {n2 c3 : Nat} {t5 : List Plan} {set6 : Int} (hS : St w m L) (hr4 : RSl 3 RPlan m a1 n2 c3 t5) {fuel : Nat} {r : Plan} (hM : mg118 fuel t5 set6 = some r) : Calls P0 118 [.slice a1 n2 c3, .int .i64 set6].toArray w (Ret fun v w' => ∃ (a0 : Option Addr) (n0 : Nat) (c0 : Nat), v = .agg #[.bool r.ok, .slice a0 n0 c0, .int .i64 r.takes] ∧ RSl 3 RTour m a0 n0 c0 r.tours ∧ St w' m (L)) := by
 rw [mg118] at hM
 obtain rfl := hr4.1
 refine enter Tryz.func118 rfl Tryz.ntmps118 (Nat.le_of_ble_eq_true rfl) ?_
 refine c_seq <| c_region <| wl_alloc ty143 rfl hS ?_
 intro b7 w8 hS9
 refine wl_nil <| c_seq <| c_region <| wl_h hS9.toHeld (r_move (v := .slice _ _ _) rfl) <| wl_h hS9.toHeld (r_move (v := .int .i64 _) rfl) ?_
 obtain ⟨x10, hx11, h12, h13, hM⟩ := getK_ok hM
 obtain ⟨b14, o15, rfl⟩ := RSl.elem_a hr4 hx11
 obtain ⟨cs16, hI17, hR18⟩ := RSl.elem_at hr4 hx11
 have hk23 := hR18
 obtain ⟨a19, n20, c21, rfl, hr22⟩ := hR18
 obtain rfl := hr22.1
 refine wl_h hS9.toHeld (r_indexAddr Tryz.underlying181 ty143 (b := _) (o := _) (n := _) (c := _) (i := set6) rfl rfl h12 (RSl.lt hr4 h13)) <| wl_h hS9.toHeld (r_imm ty143 (k := 0) hI17 rfl rfl rfl (v := .agg #[.bool _, .slice _ _ _, .int .i64 _]) rfl) <| wl_store_box ty143 hS9 rfl (v := .agg #[.bool _, .slice _ _ _, .int .i64 _]) rfl (vs := [.bool _, .slice _ _ _, .int .i64 _]) rfl rfl rfl .here (cs' := [.bool _, .slice _ _ _, .int .i64 _]) rfl rfl ?_
 intro w24 hS25
 refine wl_nil <| c_ret <| ret_many rfl (.cell (v := .agg #[.bool _, .slice _ _ _, .int .i64 _]) rfl (ty143.run_loadVar (cs := [.bool _, .slice _ _ _, .int .i64 _]) (box_at (hS25.toHeld.own .here)) rfl) .nil) ?_
 obtain rfl := some_eq hM
 have hS26 := hS25.weaken (.cons _ (.refl _))
 exact ⟨a19, x10.tours.length, c21, rfl, hr22, hS26⟩

end Go.Proofs.YtdhhimfcjoclfaaGreat
