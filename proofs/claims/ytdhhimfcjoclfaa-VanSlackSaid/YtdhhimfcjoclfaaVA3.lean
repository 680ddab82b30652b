import Derived.Test.YtdhhimfcjoclfaaVA2
set_option linter.unusedVariables false
set_option linter.unusedSimpArgs false
set_option maxRecDepth 100000
namespace Go.Proofs.Ytdhhimfcjoclfaa
open Go Go.K Go.V Go.Proofs
attribute [local irreducible] Calls
theorem cg54 {m : Mem} {L : List Atom} {w : World} {cs1 : List Value} {r3 : Round} (hS : St w m L) (hx2 : RRound m cs1 r3) {fuel : Nat} {r : (List Int) × Int} (hM : mg54 fuel r3 = some r) : Calls P0 54 [.agg cs1.toArray].toArray w (Ret fun v w' => ∃ (a0 : Option Addr) (n0 : Nat) (c0 : Nat) (cs0 : List Value), v = .tuple #[.slice a0 n0 c0, .int .i64 r.2] ∧ n0 = r.1.length ∧ RCs 1 RInt m cs0 r.1 ∧ St w' m (.row (.slice a0 n0 c0) 3 1 cs0 :: L)) := by
 rw [mg54] at hM
 have hk8 := hx2
 obtain ⟨a4, n5, c6, rfl, hr7⟩ := hx2
 obtain rfl := hr7.1
 refine enter Try.func54 rfl Try.ntmps54 (Nat.le_of_ble_eq_true rfl) ?_
 refine c_seq <| c_region <| wl_box hS (v := .agg #[.int .i64 _, .slice _ _ _]) rfl (cs := [.int .i64 _, .slice _ _ _]) rfl ?_
 intro b9 w10 hS11
 refine wl_h hS11.toHeld (r_assign (v := .slice _ _ _) rfl) <| wl_h hS11.toHeld (r_assign (v := .int .i64 _) rfl) <| wl_nil <| c_seq <| c_region <| wl_h hS11.toHeld (r_box ty73 (k := 0) .here rfl rfl rfl (v := .agg #[.int .i64 _, .slice _ _ _]) rfl) ?_
 obtain ⟨r12, hq13, hM⟩ := bnd_ok hM
 refine wl_call ent73 (vals := [.agg #[.int .i64 _, .slice _ _ _]]) rfl (cg73 hS11 hk8 hq13) ?_
 rintro _ w21 ⟨a15, n16, c17, cs18, rfl, rfl, hrc19, hS22⟩
 refine wl_h hS22.toHeld (r_assign (v := .slice _ _ _) rfl) <| wl_nil <| c_seq <| c_region <| wl_h hS22.toHeld (r_assign (v := .slice _ _ _) rfl) ?_
 refine wl_nil <| c_seq <| c_seq <| c_region <| wl_h hS22.toHeld (r_move (v := .slice _ _ _) rfl) ?_
 refine wl_h hS22.toHeld (r_len Try.underlying35 (a := _) (n := _) (c := _) rfl) <| wl_h hS22.toHeld (r_move (v := .int .i64 _) rfl) <| wl_nil <| c_block ?_
 have hS11073 := hS22.nilRow 129 1
 have hrc11074 : RCs 1 (RS 2 RWayR) m [] ([] : List (List WayR)) := RCs.nil
 refine c_loop (fun k f w => ∃ (x11078 : Int) (l11079 : List (List WayR)) (m11075 : Mem) (a11080 : Option Addr) (n11081 : Nat) (c11082 : Nat) (cs11083 : List Value), mg54_l0 fuel r3 r12 k x11078 l11079 = some r ∧ m ≤ m11075 ∧ n11081 = l11079.length ∧ RCs 1 (RS 2 RWayR) m11075 cs11083 l11079 ∧ St w m11075 (.row (.slice a11080 n11081 c11082) 129 1 cs11083 :: .row (.slice a15 r12.length c17) 3 1 cs18 :: .box b9 73 [.int .i64 r3.corners, .slice a4 r3.streets.length c6] :: L) ∧ f 1 = .pointer (some ⟨b9, 0, none⟩) ∧ f 4 = .slice a15 r12.length c17 ∧ f 5 = .slice a11080 n11081 c11082 ∧ f 23 = .slice a15 r12.length c17 ∧ f 24 = .int .i64 ((r12.length : Nat) : Int) ∧ f 25 = .int .i64 x11078) fuel ⟨0, ([] : List (List WayR)), m, none, 0, 0, [], hM, Mem.le_refl _, row_n (hS11073.toHeld.own .here) hrc11074 (by decide), hrc11074, hS11073, rfl, rfl, rfl, rfl, rfl, rfl⟩ ?_
 rintro k_0 f11086 w11087 ⟨x11078, l11079, m11075, a11080, n11081, c11082, cs11083, hM, hm11076, hn11084, hrc11085, hS11089, e11090, e11091, e11092, e11093, e11094, e11095⟩
 replace hk8 := RRound.mono _ _ _ _ hk8 hm11076
 replace hr7 := RSl.mono RStreet.mono hr7 hm11076
 replace hrc19 := RCs.mono RInt.mono hrc19 hm11076
 replace hrc11074 := RCs.mono (RS.mono RWayR.mono) hrc11074 hm11076
 have le11077 := hm11076
 subst hn11084
 refine c_know (t := 1) e11090 <| c_know (t := 4) e11091 <| c_know (t := 5) e11092 <| c_know (t := 23) e11093 <| c_know (t := 24) e11094 ?_
 refine c_know (t := 25) e11095 ?_
 clear e11090 e11091 e11092 e11093 e11094 e11095
 rcases k_0 with _ | k_0
 · exact none_ne hM
 rw [mg54_l0] at hM
 refine c_seq <| c_region <| wl_h hS11089.toHeld (r_lss (a := _) (b := _) rfl rfl) <| wl_nil <| c_seq <| c_cond (c := _) rfl (fun h11096 => ?_) (fun h11096 => ?_)
 ·replace hM := bif_t h11096 hM
  refine c_skip <| c_seq <| c_block <| c_seq <| c_region ?_
  obtain ⟨x11097, hx11098, h11099, h11100, hM⟩ := getK_ok hM
  obtain ⟨b11101, rfl⟩ := row_some (hS11089.toHeld.own (.there .here)) hrc19 (by decide) h11099 h11100
  obtain ⟨es11102, hes11103, hR11104⟩ := row_read hrc19 hx11098
  obtain rfl := hR11104
  refine wl_h hS11089.toHeld (r_indexAddr Try.underlying35 ty3 (b := _) (o := _) (n := _) (c := _) (i := x11078) rfl rfl h11099 (row_lt (hS11089.toHeld.own (.there .here)) hrc19 (by decide) h11100)) <| wl_h hS11089.toHeld (r_row ty3 (k := 0) (i := x11078.toNat) (.there .here) rfl rfl (row_room hrc19 hx11098) hes11103 rfl (v := .int .i64 _) rfl) <| wl_h hS11089.toHeld (r_assign (v := .int .i64 _) rfl) <| wl_nil <| c_region <| wl_h hS11089.toHeld (r_move (v := .slice _ _ _) rfl) ?_
  refine wl_h hS11089.toHeld (r_box ty73 (k := 0) (.there (.there .here)) rfl rfl rfl (v := .agg #[.int .i64 _, .slice _ _ _]) rfl) <| wl_h hS11089.toHeld (r_move (v := .int .i64 _) rfl) ?_
  obtain ⟨r11105, hq11106, hM⟩ := bnd_ok hM
  refine wl_call ent75 (vals := [.agg #[.int .i64 _, .slice _ _ _], .int .i64 _]) rfl (cg75 hS11089 hk8 hq11106) ?_
  rintro _ w11115 ⟨m11107, a11109, n11110, c11111, cs11112, rfl, hm11108, rfl, hrc11113, hS11116⟩
  have le11117 := Mem.le_trans le11077 hm11108
  replace hk8 := RRound.mono _ _ _ _ hk8 hm11108
  replace hr7 := RSl.mono RStreet.mono hr7 hm11108
  replace hrc19 := RCs.mono RInt.mono hrc19 hm11108
  replace hrc11074 := RCs.mono (RS.mono RWayR.mono) hrc11074 hm11108
  replace hrc11085 := RCs.mono (RS.mono RWayR.mono) hrc11085 hm11108
  obtain ⟨m11118, hm11119, hS11120, hr11121⟩ := hS11116.freezeR .here hrc11113 RWayR.mono (by decide)
  have le11123 := Mem.le_trans le11117 hm11119
  replace hk8 := RRound.mono _ _ _ _ hk8 hm11119
  replace hr7 := RSl.mono RStreet.mono hr7 hm11119
  replace hrc19 := RCs.mono RInt.mono hrc19 hm11119
  replace hrc11074 := RCs.mono (RS.mono RWayR.mono) hrc11074 hm11119
  replace hrc11085 := RCs.mono (RS.mono RWayR.mono) hrc11085 hm11119
  replace hrc11113 := RCs.mono RWayR.mono hrc11113 hm11119
  refine wl_buildSlice Try.underlying128 ty129 rfl (by decide) (by decide) hS11120 (ps := [(0, [.slice _ _ _])]) rfl rfl (cs := [.slice _ _ _]) rfl rfl (by decide) ?_
  intro b11125 w11126 hS11127
  have hrc11128 : RCs 1 (RS 2 RWayR) m11118 [.slice a11109 r11105.length c11111] ([r11105] : List (List WayR)) := (RCs.cons (d := [.slice a11109 r11105.length c11111]) rfl ⟨_, _, _, rfl, hr11121⟩ RCs.nil)
  obtain ⟨hc11129, hM⟩ := chk_ok hM
  refine wl_append_src Try.underlying128 ty129 rfl (by decide) hS11127 (a := _) (nn := _) (c := _) rfl (a2 := _) (k2 := _) (c2 := _) rfl (.there .here) (row_src (hS11127.toHeld.own .here) (RCs.allOne RS.one (by decide) hrc11128)) (lim_b hc11129 rfl) (lim_a hc11129) ?_
  intro a11130 c11131 w11132 hS11133
  have hrc11135 := RCs.append hrc11085 hrc11128
  generalize cs11083 ++ [.slice a11109 r11105.length c11111] = cs11136 at hS11133 hrc11135
  have hS11137 := hS11133.weaken (.cons_cons _ (.cons _ (.cons_cons _ (.cons_cons _ (.refl _)))))
  refine wl_h hS11137.toHeld (r_assign (v := .slice _ _ _) rfl) <| wl_nil <| c_nil <| q_norm <| c_region ?_
  obtain ⟨hc11138, hM⟩ := chk_ok hM
  refine wl_h hS11137.toHeld (r_add (a := _) (b := _) rfl rfl (ok_lo hc11138) (ok_hi hc11138)) <| wl_h hS11137.toHeld (r_move (v := .int .i64 _) rfl) <| wl_nil <| c_nil <| q_loop ?_
  exact ⟨k_0, Nat.lt_succ_self _, x11078 + 1, (l11079 ++ [r11105]), m11118, a11130, (l11079.length + 1), c11131, cs11136, hM, le11123, row_n (hS11137.toHeld.own .here) hrc11135 (by decide), hrc11135, hS11137, rfl, rfl, rfl, rfl, rfl, rfl⟩
 ·replace hM := bif_f h11096 hM
  refine c_exit <| q_loopx <| q_hit <| c_seq ?_
  obtain ⟨hc11141, hM⟩ := chk_ok hM
  obtain ⟨hc11142, hM⟩ := chk_ok hM
  obtain ⟨hc11145, hM⟩ := chk_ok hM
  obtain ⟨hc11152, hM⟩ := chk_ok hM
  have hH11169 := (hS11089.weaken (.cons_cons _ (.cons_cons _ (.cons_cons _ (.refl _))))).toHeld
  refine c_drawJ (k := 10) (fun f w => ∃ (a11157 : Option Addr) (n11158 : Nat) (c11159 : Nat) (cs11160 : List Value) (a11163 : Option Addr) (n11164 : Nat) (c11165 : Nat) (cs11166 : List Value), n11158 = ((List.replicate (ishl 1 ((r12.length : Nat) : Int)).toNat 0 : List Int)).length ∧ RCs 1 RInt m11075 cs11160 (List.replicate (ishl 1 ((r12.length : Nat) : Int)).toNat 0 : List Int) ∧ n11164 = ((List.replicate (ishl 1 ((r12.length : Nat) : Int)).toNat 0 : List Int)).length ∧ RCs 1 RInt m11075 cs11166 (List.replicate (ishl 1 ((r12.length : Nat) : Int)).toNat 0 : List Int) ∧ St w m11075 (.row (.slice a11157 n11158 c11159) 3 1 cs11160 :: .row (.slice a11163 n11164 c11165) 3 1 cs11166 :: .row (.slice a11080 l11079.length c11082) 129 1 cs11083 :: .row (.slice a15 r12.length c17) 3 1 cs18 :: .box b9 73 [.int .i64 r3.corners, .slice a4 r3.streets.length c6] :: L) ∧ f 1 = .pointer (some ⟨b9, 0, none⟩) ∧ f 4 = .slice a15 r12.length c17 ∧ f 5 = .slice a11080 l11079.length c11082 ∧ f 8 = .slice a11163 n11164 c11165 ∧ f 9 = .slice a11157 n11158 c11159) (fun w => Held w m11075 (.row (.slice a11080 l11079.length c11082) 129 1 cs11083 :: .row (.slice a15 r12.length c17) 3 1 cs18 :: .box b9 73 [.int .i64 r3.corners, .slice a4 r3.streets.length c6] :: L)) mixed rfl ?_ ?_
  ·replace hH11169 := hH11169.drew1
   have hS11170 := hS11089.drew1
   refine d_v (i := 0) rfl (by kernel_rfl) rfl (r_move (v := .slice _ _ _) rfl) hH11169 ?_
   refine d_v (i := 1) rfl (by kernel_rfl) rfl (r_len Try.underlying35 (a := _) (n := _) (c := _) rfl) hH11169 ?_
   refine d_v (i := 2) rfl (by kernel_rfl) rfl (r_shl (a := _) (b := _) rfl rfl hc11141) hH11169 ?_
   refine d_v (i := 4) rfl (by kernel_rfl) rfl (r_move (v := .slice _ _ _) rfl) hH11169 ?_
   refine d_v (i := 5) rfl (by kernel_rfl) rfl (r_len Try.underlying35 (a := _) (n := _) (c := _) rfl) hH11169 ?_
   refine d_v (i := 6) rfl (by kernel_rfl) rfl (r_shl (a := _) (b := _) rfl rfl hc11142) hH11169 ?_
   refine d_all (rs := [3, 7]) (by kernel_rfl) (by simp) (fun j hj o ho => ?_)
   simp only [List.mem_cons, List.not_mem_nil, or_false] at hj
   rcases hj with rfl | rfl
   ·cases ho
    refine wl_makeSlice Try.underlying131 ty3 rfl (by decide) hS11170 (l := _) (c := _) rfl rfl (mk_0 hc11145) (mk_1 hc11145) (mk_2 hc11145 (by decide)) (mk_3 hc11145) ?_
    intro b11171 w11172 hS11173
    have hrc11175 : RCs 1 RInt m11075 (reps [.int .i64 0] (ishl 1 ((r12.length : Nat) : Int)).toNat) ((List.replicate (ishl 1 ((r12.length : Nat) : Int)).toNat 0 : List Int) : List Int) := RCs.reps rfl rfl _
    refine wl_nil ?_
    have hH11176 := hS11173.toHeld.mono (Mem.le_refl _) (List.Sublist.subset (.cons _ (.cons_cons _ (.cons_cons _ (.cons_cons _ (.refl _))))))
    refine ⟨hH11176, ?_⟩
    refine d_v (i := 8) rfl (by kernel_rfl) rfl (r_assign (v := .slice _ _ _) rfl) hH11176 ?_
    refine d_all (rs := [7]) (by kernel_rfl) (by simp) (fun j hj o ho => ?_)
    obtain rfl : j = 7 := by simpa using hj
    cases ho
    refine wl_makeSlice Try.underlying35 ty3 rfl (by decide) hS11173 (l := _) (c := _) rfl rfl (mk_0 hc11152) (mk_1 hc11152) (mk_2 hc11152 (by decide)) (mk_3 hc11152) ?_
    intro b11177 w11178 hS11179
    have hrc11181 : RCs 1 RInt m11075 (reps [.int .i64 0] (ishl 1 ((r12.length : Nat) : Int)).toNat) ((List.replicate (ishl 1 ((r12.length : Nat) : Int)).toNat 0 : List Int) : List Int) := RCs.reps rfl rfl _
    refine wl_nil ?_
    have hH11182 := hS11179.toHeld.mono (Mem.le_refl _) (List.Sublist.subset (.cons _ (.cons _ (.cons_cons _ (.cons_cons _ (.cons_cons _ (.refl _)))))))
    refine ⟨hH11182, ?_⟩
    refine d_v (i := 9) rfl (by kernel_rfl) rfl (r_assign (v := .slice _ _ _) rfl) hH11182 ?_
    refine d_end (by kernel_rfl) ?_
    exact ⟨_, _, _, _, _, _, _, _, row_n (hS11179.toHeld.own .here) hrc11181 (by decide), hrc11181, row_n (hS11179.toHeld.own (.there .here)) hrc11175 (by decide), hrc11175, hS11179, rfl, rfl, rfl, rfl, rfl⟩
   ·cases ho
    refine wl_makeSlice Try.underlying35 ty3 rfl (by decide) hS11170 (l := _) (c := _) rfl rfl (mk_0 hc11152) (mk_1 hc11152) (mk_2 hc11152 (by decide)) (mk_3 hc11152) ?_
    intro b11183 w11184 hS11185
    have hrc11187 : RCs 1 RInt m11075 (reps [.int .i64 0] (ishl 1 ((r12.length : Nat) : Int)).toNat) ((List.replicate (ishl 1 ((r12.length : Nat) : Int)).toNat 0 : List Int) : List Int) := RCs.reps rfl rfl _
    refine wl_nil ?_
    have hH11188 := hS11185.toHeld.mono (Mem.le_refl _) (List.Sublist.subset (.cons _ (.cons_cons _ (.cons_cons _ (.cons_cons _ (.refl _))))))
    refine ⟨hH11188, ?_⟩
    refine d_all (rs := [3]) (by kernel_rfl) (by simp) (fun j hj o ho => ?_)
    obtain rfl : j = 3 := by simpa using hj
    cases ho
    refine wl_makeSlice Try.underlying131 ty3 rfl (by decide) hS11185 (l := _) (c := _) rfl rfl (mk_0 hc11145) (mk_1 hc11145) (mk_2 hc11145 (by decide)) (mk_3 hc11145) ?_
    intro b11189 w11190 hS11191
    have hrc11193 : RCs 1 RInt m11075 (reps [.int .i64 0] (ishl 1 ((r12.length : Nat) : Int)).toNat) ((List.replicate (ishl 1 ((r12.length : Nat) : Int)).toNat 0 : List Int) : List Int) := RCs.reps rfl rfl _
    refine wl_nil ?_
    have hH11194 := hS11191.toHeld.mono (Mem.le_refl _) (List.Sublist.subset (.cons _ (.cons _ (.cons_cons _ (.cons_cons _ (.cons_cons _ (.refl _)))))))
    refine ⟨hH11194, ?_⟩
    refine d_v (i := 8) rfl (by kernel_rfl) rfl (r_assign (v := .slice _ _ _) rfl) hH11194 ?_
    refine d_v (i := 9) rfl (by kernel_rfl) rfl (r_assign (v := .slice _ _ _) rfl) hH11194 ?_
    refine d_end (by kernel_rfl) ?_
    have hS11195 := hS11191.front (.there (.there (.there (.there .here))))
    have hS11196 := hS11195.front (.there (.there (.there (.there .here))))
    have hS11197 := hS11196.front (.there (.there (.there (.there .here))))
    have hS11198 := hS11197.front (.there (.there (.there .here)))
    have hS11199 := hS11198.front (.there (.there (.there (.there .here))))
    exact ⟨_, _, _, _, _, _, _, _, row_n (hS11199.toHeld.own .here) hrc11187 (by decide), hrc11187, row_n (hS11199.toHeld.own (.there .here)) hrc11193 (by decide), hrc11193, hS11199, rfl, rfl, rfl, rfl, rfl⟩
  ·rintro f11206 w11207 ⟨a11157, n11158, c11159, cs11160, a11163, n11164, c11165, cs11166, hn11161, hrc11162, hn11167, hrc11168, hS11200, e11201, e11202, e11203, e11204, e11205⟩
   subst hn11161
   subst hn11167
   refine c_know (t := 1) e11201 <| c_know (t := 4) e11202 <| c_know (t := 5) e11203 <| c_know (t := 8) e11204 <| c_know (t := 9) e11205 ?_
   clear e11201 e11202 e11203 e11204 e11205
   refine c_seq <| c_seq <| c_region <| wl_h hS11200.toHeld (r_assign (v := .int .i64 _) rfl) <| wl_nil <| c_block <| c_loop (fun k f w => ∃ (set16460 : Int) (l16461 : List Int) (l16468 : List Int) (m16456 : Mem) (a16462 : Option Addr) (n16463 : Nat) (c16464 : Nat) (cs16465 : List Value) (a16469 : Option Addr) (n16470 : Nat) (c16471 : Nat) (cs16472 : List Value), mg54_l1 fuel r3 r12 l11079 k set16460 l16461 l16468 = some r ∧ m11075 ≤ m16456 ∧ n16463 = l16461.length ∧ RCs 1 RInt m16456 cs16465 l16461 ∧ n16470 = l16468.length ∧ RCs 1 RInt m16456 cs16472 l16468 ∧ St w m16456 (.row (.slice a16462 n16463 c16464) 3 1 cs16465 :: .row (.slice a16469 n16470 c16471) 3 1 cs16472 :: .row (.slice a11080 l11079.length c11082) 129 1 cs11083 :: .row (.slice a15 r12.length c17) 3 1 cs18 :: .box b9 73 [.int .i64 r3.corners, .slice a4 r3.streets.length c6] :: L) ∧ f 1 = .pointer (some ⟨b9, 0, none⟩) ∧ f 4 = .slice a15 r12.length c17 ∧ f 5 = .slice a11080 l11079.length c11082 ∧ f 8 = .slice a16469 n16470 c16471 ∧ f 9 = .slice a16462 n16463 c16464 ∧ f 10 = .int .i64 set16460) fuel ⟨1, (List.replicate (ishl 1 ((r12.length : Nat) : Int)).toNat 0 : List Int), (List.replicate (ishl 1 ((r12.length : Nat) : Int)).toNat 0 : List Int), m11075, a11157, ((List.replicate (ishl 1 ((r12.length : Nat) : Int)).toNat 0 : List Int)).length, c11159, cs11160, a11163, ((List.replicate (ishl 1 ((r12.length : Nat) : Int)).toNat 0 : List Int)).length, c11165, cs11166, hM, Mem.le_refl _, row_n (hS11200.toHeld.own .here) hrc11162 (by decide), hrc11162, row_n (hS11200.toHeld.own (.there .here)) hrc11168 (by decide), hrc11168, hS11200, rfl, rfl, rfl, rfl, rfl, rfl⟩ ?_
   rintro k_1 f16475 w16476 ⟨set16460, l16461, l16468, m16456, a16462, n16463, c16464, cs16465, a16469, n16470, c16471, cs16472, hM, hm16457, hn16466, hrc16467, hn16473, hrc16474, hS16478, e16479, e16480, e16481, e16482, e16483, e16484⟩
   replace hk8 := RRound.mono _ _ _ _ hk8 hm16457
   replace hr7 := RSl.mono RStreet.mono hr7 hm16457
   replace hrc19 := RCs.mono RInt.mono hrc19 hm16457
   replace hrc11074 := RCs.mono (RS.mono RWayR.mono) hrc11074 hm16457
   replace hrc11085 := RCs.mono (RS.mono RWayR.mono) hrc11085 hm16457
   replace hrc11162 := RCs.mono RInt.mono hrc11162 hm16457
   replace hrc11168 := RCs.mono RInt.mono hrc11168 hm16457
   have le16458 := Mem.le_trans le11077 hm16457
   have le16459 := hm16457
   subst hn16466
   subst hn16473
   refine c_know (t := 1) e16479 <| c_know (t := 4) e16480 <| c_know (t := 5) e16481 <| c_know (t := 8) e16482 <| c_know (t := 9) e16483 ?_
   refine c_know (t := 10) e16484 ?_
   clear e16479 e16480 e16481 e16482 e16483 e16484
   rcases k_1 with _ | k_1
   · exact none_ne hM
   rw [mg54_l1] at hM
   refine c_seq <| c_seq <| c_region <| wl_h hS16478.toHeld (r_move (v := .int .i64 _) rfl) <| wl_h hS16478.toHeld (r_move (v := .slice _ _ _) rfl) ?_
   refine wl_h hS16478.toHeld (r_len Try.underlying131 (a := _) (n := _) (c := _) rfl) <| wl_h hS16478.toHeld (r_lss (a := _) (b := _) rfl rfl) <| wl_nil <| c_cond (c := _) rfl (fun h16485 => ?_) (fun h16485 => ?_)
   ·replace hM := bif_t h16485 hM
    refine c_skip <| c_seq <| c_block <| c_seq <| c_region <| wl_h hS16478.toHeld (r_move (v := .int .i64 _) rfl) ?_
    obtain ⟨r16486, hq16487, hM⟩ := bnd_ok hM
    refine wl_call ent65 (vals := [.int .i64 _]) rfl (cg65 hS16478 hq16487) ?_
    rintro _ w16495 ⟨a16489, n16490, c16491, cs16492, rfl, rfl, hrc16493, hS16496⟩
    refine wl_h hS16496.toHeld (r_assign (v := .slice _ _ _) rfl) <| wl_nil <| c_seq <| c_region <| wl_h hS16496.toHeld (r_move (v := .slice _ _ _) rfl) ?_
    refine wl_h hS16496.toHeld (r_move (v := .int .i64 _) rfl) ?_
    obtain ⟨x16497, hx16498, h16499, h16500, hM⟩ := getK_ok hM
    obtain ⟨b16501, rfl⟩ := row_some (hS16496.toHeld.own (.there (.there .here))) hrc16474 (by decide) h16499 h16500
    obtain ⟨es16502, hes16503, hR16504⟩ := row_read hrc16474 hx16498
    obtain rfl := hR16504
    refine wl_h hS16496.toHeld (r_indexAddr Try.underlying131 ty3 (b := _) (o := _) (n := _) (c := _) (i := set16460) rfl rfl h16499 (row_lt (hS16496.toHeld.own (.there (.there .here))) hrc16474 (by decide) h16500)) <| wl_store_row ty3 hS16496 rfl (v := .int .i64 _) rfl (vs := [.int .i64 _]) rfl rfl rfl (.there (.there .here)) (Nat.le_trans (by simp only [Nat.zero_add]; omega) (row_room hrc16474 hx16498)) ?_
    intro w16505 hS16506
    have hrc16507 := RCs.seti hrc16474 hx16498 (vs := [.int .i64 1099511627776]) (y := 1099511627776) rfl rfl
    generalize spl cs16472 (0 + set16460.toNat * 1) [.int .i64 1099511627776] = cs16508 at hS16506 hrc16507
    refine wl_nil <| c_seq <| c_region <| wl_h hS16506.toHeld (r_move (v := .slice _ _ _) rfl) ?_
    obtain ⟨m16509, hm16510, hS16511, hr16512⟩ := hS16506.freezeR .here hrc16493 RInt.mono (by decide)
    have le16514 := Mem.le_trans le16458 hm16510
    have le16515 := Mem.le_trans le16459 hm16510
    replace hk8 := RRound.mono _ _ _ _ hk8 hm16510
    replace hr7 := RSl.mono RStreet.mono hr7 hm16510
    replace hrc19 := RCs.mono RInt.mono hrc19 hm16510
    replace hrc11074 := RCs.mono (RS.mono RWayR.mono) hrc11074 hm16510
    replace hrc11085 := RCs.mono (RS.mono RWayR.mono) hrc11085 hm16510
    replace hrc11162 := RCs.mono RInt.mono hrc11162 hm16510
    replace hrc11168 := RCs.mono RInt.mono hrc11168 hm16510
    replace hrc16467 := RCs.mono RInt.mono hrc16467 hm16510
    replace hrc16474 := RCs.mono RInt.mono hrc16474 hm16510
    replace hrc16493 := RCs.mono RInt.mono hrc16493 hm16510
    replace hrc16507 := RCs.mono RInt.mono hrc16507 hm16510
    obtain ⟨hc16521, hM⟩ := chk_ok hM
    have hr16516 := RSl.dropI hr16512 hc16521
    refine wl_h hS16511.toHeld (r_slice_lo Try.underlying35 ty3 (a := _) (n := _) (c := _) (l := 1) rfl rfl (cut_0 hc16521) (Int.le_trans (cut_1 hc16521) (cut_2 hc16521))) ?_
    generalize (if c16491 = (1 : Int).toNat then a16489 else Option.map (fun q => q.add ((1 : Int).toNat * 1)) a16489) = a16517 at hr16516 ⊢
    refine wl_h hS16511.toHeld (r_len Try.underlying35 (a := _) (n := _) (c := _) rfl) <| wl_h hS16511.toHeld (r_move (v := .int .i64 _) rfl) <| wl_nil <| c_block <| c_loop (fun k f w => ∃ (x17315 : Int) (l17316 : List Int) (l17323 : List Int) (a17317 : Option Addr) (n17318 : Nat) (c17319 : Nat) (cs17320 : List Value) (a17324 : Option Addr) (n17325 : Nat) (c17326 : Nat) (cs17327 : List Value), mg54_l2 fuel r12 l11079 set16460 r16486 (mg54_l1 fuel r3 r12 l11079 k_1) k x17315 l17316 l17323 = some r ∧ n17318 = l17316.length ∧ RCs 1 RInt m16509 cs17320 l17316 ∧ n17325 = l17323.length ∧ RCs 1 RInt m16509 cs17327 l17323 ∧ St w m16509 (.row (.slice a17317 n17318 c17319) 3 1 cs17320 :: .row (.slice a17324 n17325 c17326) 3 1 cs17327 :: .row (.slice a11080 l11079.length c11082) 129 1 cs11083 :: .row (.slice a15 r12.length c17) 3 1 cs18 :: .box b9 73 [.int .i64 r3.corners, .slice a4 r3.streets.length c6] :: L) ∧ f 1 = .pointer (some ⟨b9, 0, none⟩) ∧ f 4 = .slice a15 r12.length c17 ∧ f 5 = .slice a11080 l11079.length c11082 ∧ f 8 = .slice a17324 n17325 c17326 ∧ f 9 = .slice a17317 n17318 c17319 ∧ f 10 = .int .i64 set16460 ∧ f 11 = .slice a16489 r16486.length c16491 ∧ f 56 = .slice a16517 (r16486.length - (1 : Int).toNat) (c16491 - (1 : Int).toNat) ∧ f 57 = .int .i64 (((r16486.length - (1 : Int).toNat) : Nat) : Int) ∧ f 58 = .int .i64 x17315) fuel ⟨0, l16461, (l16468.set set16460.toNat 1099511627776), a16462, l16461.length, c16464, cs16465, (some ⟨b16501, 0, none⟩), l16468.length, c16471, cs16508, hM, row_n (hS16511.toHeld.own .here) hrc16467 (by decide), hrc16467, row_n (hS16511.toHeld.own (.there .here)) hrc16507 (by decide), hrc16507, hS16511, rfl, rfl, rfl, rfl, rfl, rfl, rfl, rfl, rfl, rfl⟩ ?_
    rintro k_2 f17330 w17331 ⟨x17315, l17316, l17323, a17317, n17318, c17319, cs17320, a17324, n17325, c17326, cs17327, hM, hn17321, hrc17322, hn17328, hrc17329, hS17333, e17334, e17335, e17336, e17337, e17338, e17339, e17340, e17341, e17342, e17343⟩
    subst hn17321
    subst hn17328
    refine c_know (t := 1) e17334 <| c_know (t := 4) e17335 <| c_know (t := 5) e17336 <| c_know (t := 8) e17337 <| c_know (t := 9) e17338 ?_
    refine c_know (t := 10) e17339 <| c_know (t := 11) e17340 <| c_know (t := 56) e17341 <| c_know (t := 57) e17342 <| c_know (t := 58) e17343 ?_
    clear e17334 e17335 e17336 e17337 e17338 e17339 e17340 e17341 e17342 e17343
    rcases k_2 with _ | k_2
    · exact none_ne hM
    rw [mg54_l2] at hM
    refine c_seq <| c_region <| wl_h hS17333.toHeld (r_lss (a := _) (b := _) rfl rfl) <| wl_nil <| c_seq <| c_cond (c := _) rfl (fun h17344 => ?_) (fun h17344 => ?_)
    ·replace hM := bif_t h17344 hM
     refine c_skip <| c_seq <| c_block <| c_seq <| c_region ?_
     obtain ⟨x17345, hx17346, h17347, h17348, hM⟩ := getK_ok hM
     obtain ⟨b17349, o17350, rfl⟩ := RSl.elem_a hr16516 hx17346
     obtain ⟨cs17351, hI17352, hR17353⟩ := RSl.elem_at hr16516 hx17346
     obtain rfl := hR17353
     refine wl_h hS17333.toHeld (r_indexAddr Try.underlying35 ty3 (b := _) (o := _) (n := _) (c := _) (i := x17315) rfl rfl h17347 (RSl.lt hr16516 h17348)) <| wl_h hS17333.toHeld (r_imm ty3 (k := 0) hI17352 rfl rfl rfl (v := .int .i64 _) rfl) <| wl_h hS17333.toHeld (r_assign (v := .int .i64 _) rfl) <| wl_nil <| c_seq ?_
     obtain ⟨x17432, hx17433, h17434, h17435, hM⟩ := getK_ok hM
     obtain ⟨x17441, hx17442, h17443, h17444, hM⟩ := getK_ok hM
     obtain ⟨x17453, hx17454, h17455, h17456, hM⟩ := getK_ok hM
     obtain ⟨x17461, hx17462, h17463, h17464, hM⟩ := getK_ok hM
     obtain ⟨hc17468, hM⟩ := chk_ok hM
     obtain ⟨hc17469, hM⟩ := chk_ok hM
     obtain ⟨x17472, hx17473, h17474, h17475, hM⟩ := getK_ok hM
     obtain ⟨r17495, hq17496, hM⟩ := bnd_ok hM
     obtain ⟨hc17505, hM⟩ := chk_ok hM
     have hH17506 := (hS17333.weaken (.cons_cons _ (.cons_cons _ (.cons _ (.cons _ (.cons_cons _ (.refl _))))))).toHeld
     refine c_drawJ (k := 26) (fun f w => St w m16509 (.row (.slice a17317 l17316.length c17319) 3 1 cs17320 :: .row (.slice a17324 l17323.length c17326) 3 1 cs17327 :: .box b9 73 [.int .i64 r3.corners, .slice a4 r3.streets.length c6] :: .row (.slice a11080 l11079.length c11082) 129 1 cs11083 :: .row (.slice a15 r12.length c17) 3 1 cs18 :: L) ∧ f 1 = .pointer (some ⟨b9, 0, none⟩) ∧ f 4 = .slice a15 r12.length c17 ∧ f 5 = .slice a11080 l11079.length c11082 ∧ f 8 = .slice a17324 l17323.length c17326 ∧ f 9 = .slice a17317 l17316.length c17319 ∧ f 10 = .int .i64 set16460 ∧ f 11 = .slice a16489 r16486.length c16491 ∧ f 13 = .int .i64 x17345 ∧ f 14 = .int .i64 (x17472.length + r17495) ∧ f 56 = .slice (some ⟨b17349, o17350, none⟩) (r16486.length - (1 : Int).toNat) (c16491 - (1 : Int).toNat) ∧ f 57 = .int .i64 (((r16486.length - (1 : Int).toNat) : Nat) : Int) ∧ f 58 = .int .i64 x17315) (fun w => Held w m16509 (.row (.slice a17317 l17316.length c17319) 3 1 cs17320 :: .row (.slice a17324 l17323.length c17326) 3 1 cs17327 :: .box b9 73 [.int .i64 r3.corners, .slice a4 r3.streets.length c6] :: L)) mixed rfl ?_ ?_
     ·replace hH17506 := hH17506.drew1
      have hS17507 := hS17333.drew1
      refine d_v (i := 0) rfl (by kernel_rfl) rfl (r_move (v := .slice _ _ _) rfl) hH17506 ?_
      refine d_v (i := 1) rfl (by kernel_rfl) rfl (r_move (v := .slice _ _ _) rfl) hH17506 ?_
      obtain ⟨b17508, o17509, rfl⟩ := RSl.elem_a hr16512 hx17433
      obtain ⟨cs17510, hI17511, hR17512⟩ := RSl.elem_at hr16512 hx17433
      obtain rfl := hR17512
      refine d_v (i := 2) rfl (by kernel_rfl) rfl (r_indexAddr Try.underlying35 ty3 (b := _) (o := _) (n := _) (c := _) (i := 0) rfl rfl h17434 (RSl.lt hr16512 h17435)) hH17506 ?_
      refine d_v (i := 3) rfl (by kernel_rfl) rfl (r_imm ty3 (k := 0) hI17511 rfl rfl rfl (v := .int .i64 _) rfl) hH17506 ?_
      obtain ⟨b17513, rfl⟩ := row_some (hS17507.toHeld.own (.there (.there .here))) hrc11085 (by decide) h17443 h17444
      obtain ⟨es17514, hes17515, hR17516⟩ := row_read hrc11085 hx17442
      obtain ⟨a17517, n17518, c17519, rfl, hr17520⟩ := hR17516
      obtain rfl := hr17520.1
      refine d_v (i := 4) rfl (by kernel_rfl) rfl (r_indexAddr Try.underlying128 ty129 (b := _) (o := _) (n := _) (c := _) (i := x17432) rfl rfl h17443 (row_lt (hS17507.toHeld.own (.there (.there .here))) hrc11085 (by decide) h17444)) hH17506 ?_
      refine d_v (i := 6) rfl (by kernel_rfl) rfl (r_move (v := .slice _ _ _) rfl) hH17506 ?_
      refine d_v (i := 7) rfl (by kernel_rfl) rfl (r_move (v := .int .i64 _) rfl) hH17506 ?_
      obtain ⟨b17521, rfl⟩ := row_some (hS17507.toHeld.own (.there (.there (.there .here)))) hrc19 (by decide) h17455 h17456
      obtain ⟨es17522, hes17523, hR17524⟩ := row_read hrc19 hx17454
      obtain rfl := hR17524
      refine d_v (i := 8) rfl (by kernel_rfl) rfl (r_indexAddr Try.underlying35 ty3 (b := _) (o := _) (n := _) (c := _) (i := x17345) rfl rfl h17455 (row_lt (hS17507.toHeld.own (.there (.there (.there .here)))) hrc19 (by decide) h17456)) hH17506 ?_
      refine d_v (i := 13) rfl (by kernel_rfl) rfl (r_move (v := .slice _ _ _) rfl) hH17506 ?_
      refine d_v (i := 14) rfl (by kernel_rfl) rfl (r_move (v := .int .i64 _) rfl) hH17506 ?_
      refine d_v (i := 15) rfl (by kernel_rfl) rfl (r_move (v := .slice _ _ _) rfl) hH17506 ?_
      obtain ⟨cs17525, hI17526, hR17527⟩ := RSl.elem_at hr16512 hx17462
      obtain rfl := hR17527
      refine d_v (i := 16) rfl (by kernel_rfl) rfl (r_indexAddr Try.underlying35 ty3 (b := _) (o := _) (n := _) (c := _) (i := 0) rfl rfl h17463 (RSl.lt hr16512 h17464)) hH17506 ?_
      refine d_v (i := 17) rfl (by kernel_rfl) rfl (r_imm ty3 (k := 0) hI17526 rfl rfl rfl (v := .int .i64 _) rfl) hH17506 ?_
      refine d_v (i := 18) rfl (by kernel_rfl) rfl (r_shl (a := _) (b := _) rfl rfl hc17468) hH17506 ?_
      refine d_v (i := 19) rfl (by kernel_rfl) rfl (r_xor (a := _) (b := _) rfl rfl) hH17506 ?_
      refine d_v (i := 20) rfl (by kernel_rfl) rfl (r_move (v := .int .i64 _) rfl) hH17506 ?_
      refine d_v (i := 21) rfl (by kernel_rfl) rfl (r_shl (a := _) (b := _) rfl rfl hc17469) hH17506 ?_
      refine d_v (i := 22) rfl (by kernel_rfl) rfl (r_xor (a := _) (b := _) rfl rfl) hH17506 ?_
      refine d_all (rs := [5, 9, 23]) (by kernel_rfl) (by simp) (fun j hj o ho => ?_)
      simp only [List.mem_cons, List.not_mem_nil, or_false] at hj
      rcases hj with rfl | rfl | rfl
      ·cases ho
       refine wl_h hS17507.toHeld (r_row ty129 (k := 0) (i := x17432.toNat) (.there (.there .here)) rfl rfl (row_room hrc11085 hx17442) hes17515 rfl (v := .slice _ _ _) rfl) <| wl_nil ?_
       have hH17528 := hS17507.toHeld.mono (Mem.le_refl _) (List.Sublist.subset (.cons_cons _ (.cons_cons _ (.cons _ (.cons _ (.cons_cons _ (.refl _)))))))
       refine ⟨hH17528, ?_⟩
       refine d_all (rs := [9, 23]) (by kernel_rfl) (by simp) (fun j hj o ho => ?_)
       simp only [List.mem_cons, List.not_mem_nil, or_false] at hj
       rcases hj with rfl | rfl
       ·cases ho
        refine wl_h hS17507.toHeld (r_row ty3 (k := 0) (i := x17345.toNat) (.there (.there (.there .here))) rfl rfl (row_room hrc19 hx17454) hes17523 rfl (v := .int .i64 _) rfl) <| wl_nil ?_
        have hH17529 := hS17507.toHeld.mono (Mem.le_refl _) (List.Sublist.subset (.cons_cons _ (.cons_cons _ (.cons _ (.cons _ (.cons_cons _ (.refl _)))))))
        refine ⟨hH17529, ?_⟩
        obtain ⟨b17530, o17531, rfl⟩ := RSl.elem_a hr17520 hx17473
        obtain ⟨cs17532, hI17533, hR17534⟩ := RSl.elem_at hr17520 hx17473
        have hk17539 := hR17534
        obtain ⟨a17535, n17536, c17537, rfl, hr17538⟩ := hR17534
        obtain rfl := (ROp.rsl hr17538).1
        refine d_v (i := 10) rfl (by kernel_rfl) rfl (r_indexAddr Try.underlying129 ty133 (b := _) (o := _) (n := _) (c := _) (i := x17453) rfl rfl h17474 (RSl.lt hr17520 h17475)) hH17529 ?_
        refine d_v (i := 11) rfl (by kernel_rfl) rfl (r_fieldAddr fld133_0 (b := _) (o := _) rfl) hH17529 ?_
        refine d_v (i := 12) rfl (by kernel_rfl) rfl (r_imm ty3 (k := 0) hI17533 rfl rfl rfl (v := .int .i64 _) rfl) hH17529 ?_
        refine d_all (rs := [23]) (by kernel_rfl) (by simp) (fun j hj o ho => ?_)
        obtain rfl : j = 23 := by simpa using hj
        cases ho
        obtain ⟨m17540, hm17541, hS17542, hr17543, back17544⟩ := hS17507.lend (.there .here) hrc17329 RInt.mono (by decide)
        have le17545 := hm17541
        have hrc17546 := RCs.mono RInt.mono hrc17322 hm17541
        have hrc17547 := RCs.mono (RS.mono RWayR.mono) hrc11085 hm17541
        have hrc17548 := RCs.mono RInt.mono hrc19 hm17541
        refine wl_call ent76 (vals := [.slice _ _ _, .int .i64 _]) rfl (cg76 hS17542 hr17543 hq17496) ?_
        rintro _ w17550 ⟨rfl, hS17551⟩
        have hS17552 := back17544 _ _ hS17551
        refine wl_nil ?_
        have hS17554 := hS17552.front (.there (.there (.there (.there .here))))
        have hS17555 := hS17554.front (.there .here)
        have hS17556 := hS17555.front (.there (.there .here))
        have hH17553 := hS17556.toHeld.mono (Mem.le_refl _) (List.Sublist.subset (.cons_cons _ (.cons_cons _ (.cons_cons _ (.cons _ (.cons _ (.refl _)))))))
        refine ⟨hH17553, ?_⟩
        refine d_v (i := 24) rfl (by kernel_rfl) rfl (r_add (a := _) (b := _) rfl rfl (ok_lo hc17505) (ok_hi hc17505)) hH17553 ?_
        refine d_v (i := 25) rfl (by kernel_rfl) rfl (r_assign (v := .int .i64 _) rfl) hH17553 ?_
        refine d_end (by kernel_rfl) ?_
        exact ⟨hS17556, rfl, rfl, rfl, rfl, rfl, rfl, rfl, rfl, rfl, rfl, rfl, rfl⟩
       ·cases ho
        obtain ⟨m17557, hm17558, hS17559, hr17560, back17561⟩ := hS17507.lend (.there .here) hrc17329 RInt.mono (by decide)
        have le17562 := hm17558
        have hrc17563 := RCs.mono RInt.mono hrc17322 hm17558
        have hrc17564 := RCs.mono (RS.mono RWayR.mono) hrc11085 hm17558
        have hrc17565 := RCs.mono RInt.mono hrc19 hm17558
        refine wl_call ent76 (vals := [.slice _ _ _, .int .i64 _]) rfl (cg76 hS17559 hr17560 hq17496) ?_
        rintro _ w17567 ⟨rfl, hS17568⟩
        have hS17569 := back17561 _ _ hS17568
        refine wl_nil ?_
        have hS17571 := hS17569.front (.there (.there (.there (.there .here))))
        have hS17572 := hS17571.front (.there .here)
        have hS17573 := hS17572.front (.there (.there .here))
        have hH17570 := hS17573.toHeld.mono (Mem.le_refl _) (List.Sublist.subset (.cons_cons _ (.cons_cons _ (.cons_cons _ (.cons _ (.cons _ (.refl _)))))))
        refine ⟨hH17570, ?_⟩
        refine d_all (rs := [9]) (by kernel_rfl) (by simp) (fun j hj o ho => ?_)
        obtain rfl : j = 9 := by simpa using hj
        cases ho
        refine wl_h hS17573.toHeld (r_row ty3 (k := 0) (i := x17345.toNat) (.there (.there (.there (.there .here)))) rfl rfl (row_room hrc19 hx17454) hes17523 rfl (v := .int .i64 _) rfl) <| wl_nil ?_
        have hH17574 := hS17573.toHeld.mono (Mem.le_refl _) (List.Sublist.subset (.cons_cons _ (.cons_cons _ (.cons_cons _ (.cons _ (.cons _ (.refl _)))))))
        refine ⟨hH17574, ?_⟩
        obtain ⟨b17575, o17576, rfl⟩ := RSl.elem_a hr17520 hx17473
        obtain ⟨cs17577, hI17578, hR17579⟩ := RSl.elem_at hr17520 hx17473
        have hk17584 := hR17579
        obtain ⟨a17580, n17581, c17582, rfl, hr17583⟩ := hR17579
        obtain rfl := (ROp.rsl hr17583).1
        refine d_v (i := 10) rfl (by kernel_rfl) rfl (r_indexAddr Try.underlying129 ty133 (b := _) (o := _) (n := _) (c := _) (i := x17453) rfl rfl h17474 (RSl.lt hr17520 h17475)) hH17574 ?_
        refine d_v (i := 11) rfl (by kernel_rfl) rfl (r_fieldAddr fld133_0 (b := _) (o := _) rfl) hH17574 ?_
        refine d_v (i := 12) rfl (by kernel_rfl) rfl (r_imm ty3 (k := 0) hI17578 rfl rfl rfl (v := .int .i64 _) rfl) hH17574 ?_
        refine d_v (i := 24) rfl (by kernel_rfl) rfl (r_add (a := _) (b := _) rfl rfl (ok_lo hc17505) (ok_hi hc17505)) hH17574 ?_
        refine d_v (i := 25) rfl (by kernel_rfl) rfl (r_assign (v := .int .i64 _) rfl) hH17574 ?_
        refine d_end (by kernel_rfl) ?_
        exact ⟨hS17573, rfl, rfl, rfl, rfl, rfl, rfl, rfl, rfl, rfl, rfl, rfl, rfl⟩
      ·cases ho
       refine wl_h hS17507.toHeld (r_row ty3 (k := 0) (i := x17345.toNat) (.there (.there (.there .here))) rfl rfl (row_room hrc19 hx17454) hes17523 rfl (v := .int .i64 _) rfl) <| wl_nil ?_
       have hH17585 := hS17507.toHeld.mono (Mem.le_refl _) (List.Sublist.subset (.cons_cons _ (.cons_cons _ (.cons _ (.cons _ (.cons_cons _ (.refl _)))))))
       refine ⟨hH17585, ?_⟩
       refine d_all (rs := [5, 23]) (by kernel_rfl) (by simp) (fun j hj o ho => ?_)
       simp only [List.mem_cons, List.not_mem_nil, or_false] at hj
       rcases hj with rfl | rfl
       ·cases ho
        refine wl_h hS17507.toHeld (r_row ty129 (k := 0) (i := x17432.toNat) (.there (.there .here)) rfl rfl (row_room hrc11085 hx17442) hes17515 rfl (v := .slice _ _ _) rfl) <| wl_nil ?_
        have hH17586 := hS17507.toHeld.mono (Mem.le_refl _) (List.Sublist.subset (.cons_cons _ (.cons_cons _ (.cons _ (.cons _ (.cons_cons _ (.refl _)))))))
        refine ⟨hH17586, ?_⟩
        obtain ⟨b17587, o17588, rfl⟩ := RSl.elem_a hr17520 hx17473
        obtain ⟨cs17589, hI17590, hR17591⟩ := RSl.elem_at hr17520 hx17473
        have hk17596 := hR17591
        obtain ⟨a17592, n17593, c17594, rfl, hr17595⟩ := hR17591
        obtain rfl := (ROp.rsl hr17595).1
        refine d_v (i := 10) rfl (by kernel_rfl) rfl (r_indexAddr Try.underlying129 ty133 (b := _) (o := _) (n := _) (c := _) (i := x17453) rfl rfl h17474 (RSl.lt hr17520 h17475)) hH17586 ?_
        refine d_v (i := 11) rfl (by kernel_rfl) rfl (r_fieldAddr fld133_0 (b := _) (o := _) rfl) hH17586 ?_
        refine d_v (i := 12) rfl (by kernel_rfl) rfl (r_imm ty3 (k := 0) hI17590 rfl rfl rfl (v := .int .i64 _) rfl) hH17586 ?_
        refine d_all (rs := [23]) (by kernel_rfl) (by simp) (fun j hj o ho => ?_)
        obtain rfl : j = 23 := by simpa using hj
        cases ho
        obtain ⟨m17597, hm17598, hS17599, hr17600, back17601⟩ := hS17507.lend (.there .here) hrc17329 RInt.mono (by decide)
        have le17602 := hm17598
        have hrc17603 := RCs.mono RInt.mono hrc17322 hm17598
        have hrc17604 := RCs.mono (RS.mono RWayR.mono) hrc11085 hm17598
        have hrc17605 := RCs.mono RInt.mono hrc19 hm17598
        refine wl_call ent76 (vals := [.slice _ _ _, .int .i64 _]) rfl (cg76 hS17599 hr17600 hq17496) ?_
        rintro _ w17607 ⟨rfl, hS17608⟩
        have hS17609 := back17601 _ _ hS17608
        refine wl_nil ?_
        have hS17611 := hS17609.front (.there (.there (.there (.there .here))))
        have hS17612 := hS17611.front (.there .here)
        have hS17613 := hS17612.front (.there (.there .here))
        have hH17610 := hS17613.toHeld.mono (Mem.le_refl _) (List.Sublist.subset (.cons_cons _ (.cons_cons _ (.cons_cons _ (.cons _ (.cons _ (.refl _)))))))
        refine ⟨hH17610, ?_⟩
        refine d_v (i := 24) rfl (by kernel_rfl) rfl (r_add (a := _) (b := _) rfl rfl (ok_lo hc17505) (ok_hi hc17505)) hH17610 ?_
        refine d_v (i := 25) rfl (by kernel_rfl) rfl (r_assign (v := .int .i64 _) rfl) hH17610 ?_
        refine d_end (by kernel_rfl) ?_
        exact ⟨hS17613, rfl, rfl, rfl, rfl, rfl, rfl, rfl, rfl, rfl, rfl, rfl, rfl⟩
       ·cases ho
        obtain ⟨m17614, hm17615, hS17616, hr17617, back17618⟩ := hS17507.lend (.there .here) hrc17329 RInt.mono (by decide)
        have le17619 := hm17615
        have hrc17620 := RCs.mono RInt.mono hrc17322 hm17615
        have hrc17621 := RCs.mono (RS.mono RWayR.mono) hrc11085 hm17615
        have hrc17622 := RCs.mono RInt.mono hrc19 hm17615
        refine wl_call ent76 (vals := [.slice _ _ _, .int .i64 _]) rfl (cg76 hS17616 hr17617 hq17496) ?_
        rintro _ w17624 ⟨rfl, hS17625⟩
        have hS17626 := back17618 _ _ hS17625
        refine wl_nil ?_
        have hS17628 := hS17626.front (.there (.there (.there (.there .here))))
        have hS17629 := hS17628.front (.there .here)
        have hS17630 := hS17629.front (.there (.there .here))
        have hH17627 := hS17630.toHeld.mono (Mem.le_refl _) (List.Sublist.subset (.cons_cons _ (.cons_cons _ (.cons_cons _ (.cons _ (.cons _ (.refl _)))))))
        refine ⟨hH17627, ?_⟩
        refine d_all (rs := [5]) (by kernel_rfl) (by simp) (fun j hj o ho => ?_)
        obtain rfl : j = 5 := by simpa using hj
        cases ho
        refine wl_h hS17630.toHeld (r_row ty129 (k := 0) (i := x17432.toNat) (.there (.there (.there .here))) rfl rfl (row_room hrc11085 hx17442) hes17515 rfl (v := .slice _ _ _) rfl) <| wl_nil ?_
        have hH17631 := hS17630.toHeld.mono (Mem.le_refl _) (List.Sublist.subset (.cons_cons _ (.cons_cons _ (.cons_cons _ (.cons _ (.cons _ (.refl _)))))))
        refine ⟨hH17631, ?_⟩
        obtain ⟨b17632, o17633, rfl⟩ := RSl.elem_a hr17520 hx17473
        obtain ⟨cs17634, hI17635, hR17636⟩ := RSl.elem_at hr17520 hx17473
        have hk17641 := hR17636
        obtain ⟨a17637, n17638, c17639, rfl, hr17640⟩ := hR17636
        obtain rfl := (ROp.rsl hr17640).1
        refine d_v (i := 10) rfl (by kernel_rfl) rfl (r_indexAddr Try.underlying129 ty133 (b := _) (o := _) (n := _) (c := _) (i := x17453) rfl rfl h17474 (RSl.lt hr17520 h17475)) hH17631 ?_
        refine d_v (i := 11) rfl (by kernel_rfl) rfl (r_fieldAddr fld133_0 (b := _) (o := _) rfl) hH17631 ?_
        refine d_v (i := 12) rfl (by kernel_rfl) rfl (r_imm ty3 (k := 0) hI17635 rfl rfl rfl (v := .int .i64 _) rfl) hH17631 ?_
        refine d_v (i := 24) rfl (by kernel_rfl) rfl (r_add (a := _) (b := _) rfl rfl (ok_lo hc17505) (ok_hi hc17505)) hH17631 ?_
        refine d_v (i := 25) rfl (by kernel_rfl) rfl (r_assign (v := .int .i64 _) rfl) hH17631 ?_
        refine d_end (by kernel_rfl) ?_
        exact ⟨hS17630, rfl, rfl, rfl, rfl, rfl, rfl, rfl, rfl, rfl, rfl, rfl, rfl⟩
      ·cases ho
       obtain ⟨m17642, hm17643, hS17644, hr17645, back17646⟩ := hS17507.lend (.there .here) hrc17329 RInt.mono (by decide)
       have le17647 := hm17643
       have hrc17648 := RCs.mono RInt.mono hrc17322 hm17643
       have hrc17649 := RCs.mono (RS.mono RWayR.mono) hrc11085 hm17643
       have hrc17650 := RCs.mono RInt.mono hrc19 hm17643
       refine wl_call ent76 (vals := [.slice _ _ _, .int .i64 _]) rfl (cg76 hS17644 hr17645 hq17496) ?_
       rintro _ w17652 ⟨rfl, hS17653⟩
       have hS17654 := back17646 _ _ hS17653
       refine wl_nil ?_
       have hS17656 := hS17654.front (.there (.there (.there (.there .here))))
       have hS17657 := hS17656.front (.there .here)
       have hS17658 := hS17657.front (.there (.there .here))
       have hH17655 := hS17658.toHeld.mono (Mem.le_refl _) (List.Sublist.subset (.cons_cons _ (.cons_cons _ (.cons_cons _ (.cons _ (.cons _ (.refl _)))))))
       refine ⟨hH17655, ?_⟩
       refine d_all (rs := [5, 9]) (by kernel_rfl) (by simp) (fun j hj o ho => ?_)
       simp only [List.mem_cons, List.not_mem_nil, or_false] at hj
       rcases hj with rfl | rfl
       ·cases ho
        refine wl_h hS17658.toHeld (r_row ty129 (k := 0) (i := x17432.toNat) (.there (.there (.there .here))) rfl rfl (row_room hrc11085 hx17442) hes17515 rfl (v := .slice _ _ _) rfl) <| wl_nil ?_
        have hH17659 := hS17658.toHeld.mono (Mem.le_refl _) (List.Sublist.subset (.cons_cons _ (.cons_cons _ (.cons_cons _ (.cons _ (.cons _ (.refl _)))))))
        refine ⟨hH17659, ?_⟩
        refine d_all (rs := [9]) (by kernel_rfl) (by simp) (fun j hj o ho => ?_)
        obtain rfl : j = 9 := by simpa using hj
        cases ho
        refine wl_h hS17658.toHeld (r_row ty3 (k := 0) (i := x17345.toNat) (.there (.there (.there (.there .here)))) rfl rfl (row_room hrc19 hx17454) hes17523 rfl (v := .int .i64 _) rfl) <| wl_nil ?_
        have hH17660 := hS17658.toHeld.mono (Mem.le_refl _) (List.Sublist.subset (.cons_cons _ (.cons_cons _ (.cons_cons _ (.cons _ (.cons _ (.refl _)))))))
        refine ⟨hH17660, ?_⟩
        obtain ⟨b17661, o17662, rfl⟩ := RSl.elem_a hr17520 hx17473
        obtain ⟨cs17663, hI17664, hR17665⟩ := RSl.elem_at hr17520 hx17473
        have hk17670 := hR17665
        obtain ⟨a17666, n17667, c17668, rfl, hr17669⟩ := hR17665
        obtain rfl := (ROp.rsl hr17669).1
        refine d_v (i := 10) rfl (by kernel_rfl) rfl (r_indexAddr Try.underlying129 ty133 (b := _) (o := _) (n := _) (c := _) (i := x17453) rfl rfl h17474 (RSl.lt hr17520 h17475)) hH17660 ?_
        refine d_v (i := 11) rfl (by kernel_rfl) rfl (r_fieldAddr fld133_0 (b := _) (o := _) rfl) hH17660 ?_
        refine d_v (i := 12) rfl (by kernel_rfl) rfl (r_imm ty3 (k := 0) hI17664 rfl rfl rfl (v := .int .i64 _) rfl) hH17660 ?_
        refine d_v (i := 24) rfl (by kernel_rfl) rfl (r_add (a := _) (b := _) rfl rfl (ok_lo hc17505) (ok_hi hc17505)) hH17660 ?_
        refine d_v (i := 25) rfl (by kernel_rfl) rfl (r_assign (v := .int .i64 _) rfl) hH17660 ?_
        refine d_end (by kernel_rfl) ?_
        exact ⟨hS17658, rfl, rfl, rfl, rfl, rfl, rfl, rfl, rfl, rfl, rfl, rfl, rfl⟩
       ·cases ho
        refine wl_h hS17658.toHeld (r_row ty3 (k := 0) (i := x17345.toNat) (.there (.there (.there (.there .here)))) rfl rfl (row_room hrc19 hx17454) hes17523 rfl (v := .int .i64 _) rfl) <| wl_nil ?_
        have hH17671 := hS17658.toHeld.mono (Mem.le_refl _) (List.Sublist.subset (.cons_cons _ (.cons_cons _ (.cons_cons _ (.cons _ (.cons _ (.refl _)))))))
        refine ⟨hH17671, ?_⟩
        refine d_all (rs := [5]) (by kernel_rfl) (by simp) (fun j hj o ho => ?_)
        obtain rfl : j = 5 := by simpa using hj
        cases ho
        refine wl_h hS17658.toHeld (r_row ty129 (k := 0) (i := x17432.toNat) (.there (.there (.there .here))) rfl rfl (row_room hrc11085 hx17442) hes17515 rfl (v := .slice _ _ _) rfl) <| wl_nil ?_
        have hH17672 := hS17658.toHeld.mono (Mem.le_refl _) (List.Sublist.subset (.cons_cons _ (.cons_cons _ (.cons_cons _ (.cons _ (.cons _ (.refl _)))))))
        refine ⟨hH17672, ?_⟩
        obtain ⟨b17673, o17674, rfl⟩ := RSl.elem_a hr17520 hx17473
        obtain ⟨cs17675, hI17676, hR17677⟩ := RSl.elem_at hr17520 hx17473
        have hk17682 := hR17677
        obtain ⟨a17678, n17679, c17680, rfl, hr17681⟩ := hR17677
        obtain rfl := (ROp.rsl hr17681).1
        refine d_v (i := 10) rfl (by kernel_rfl) rfl (r_indexAddr Try.underlying129 ty133 (b := _) (o := _) (n := _) (c := _) (i := x17453) rfl rfl h17474 (RSl.lt hr17520 h17475)) hH17672 ?_
        refine d_v (i := 11) rfl (by kernel_rfl) rfl (r_fieldAddr fld133_0 (b := _) (o := _) rfl) hH17672 ?_
        refine d_v (i := 12) rfl (by kernel_rfl) rfl (r_imm ty3 (k := 0) hI17676 rfl rfl rfl (v := .int .i64 _) rfl) hH17672 ?_
        refine d_v (i := 24) rfl (by kernel_rfl) rfl (r_add (a := _) (b := _) rfl rfl (ok_lo hc17505) (ok_hi hc17505)) hH17672 ?_
        refine d_v (i := 25) rfl (by kernel_rfl) rfl (r_assign (v := .int .i64 _) rfl) hH17672 ?_
        refine d_end (by kernel_rfl) ?_
        exact ⟨hS17658, rfl, rfl, rfl, rfl, rfl, rfl, rfl, rfl, rfl, rfl, rfl, rfl⟩
     ·rintro f17696 w17697 ⟨hS17683, e17684, e17685, e17686, e17687, e17688, e17689, e17690, e17691, e17692, e17693, e17694, e17695⟩
      refine c_know (t := 1) e17684 <| c_know (t := 4) e17685 <| c_know (t := 5) e17686 <| c_know (t := 8) e17687 <| c_know (t := 9) e17688 ?_
      refine c_know (t := 10) e17689 <| c_know (t := 11) e17690 <| c_know (t := 13) e17691 <| c_know (t := 14) e17692 <| c_know (t := 56) e17693 ?_
      refine c_know (t := 57) e17694 <| c_know (t := 58) e17695 ?_
      clear e17684 e17685 e17686 e17687 e17688 e17689 e17690 e17691 e17692 e17693 e17694 e17695
      refine c_seq <| c_region <| wl_h hS17683.toHeld (r_move (v := .int .i64 _) rfl) <| wl_h hS17683.toHeld (r_move (v := .slice _ _ _) rfl) <| wl_h hS17683.toHeld (r_move (v := .int .i64 _) rfl) ?_
      obtain ⟨x17698, hx17699, h17700, h17701, hM⟩ := getK_ok hM
      obtain ⟨b17702, rfl⟩ := row_some (hS17683.toHeld.own (.there .here)) hrc17329 (by decide) h17700 h17701
      obtain ⟨es17703, hes17704, hR17705⟩ := row_read hrc17329 hx17699
      obtain rfl := hR17705
      refine wl_h hS17683.toHeld (r_indexAddr Try.underlying131 ty3 (b := _) (o := _) (n := _) (c := _) (i := set16460) rfl rfl h17700 (row_lt (hS17683.toHeld.own (.there .here)) hrc17329 (by decide) h17701)) <| wl_h hS17683.toHeld (r_row ty3 (k := 0) (i := set16460.toNat) (.there .here) rfl rfl (row_room hrc17329 hx17699) hes17704 rfl (v := .int .i64 _) rfl) <| wl_h hS17683.toHeld (r_lss (a := _) (b := _) rfl rfl) <| wl_nil <| c_cond (c := _) rfl (fun h17706 => ?_) (fun h17706 => ?_)
      ·replace hM := bif_t h17706 hM
       refine c_region <| wl_h hS17683.toHeld (r_move (v := .slice _ _ _) rfl) <| wl_h hS17683.toHeld (r_move (v := .int .i64 _) rfl) <| wl_h hS17683.toHeld (r_move (v := .slice _ _ _) rfl) <| wl_h hS17683.toHeld (r_move (v := .int .i64 _) rfl) ?_
       refine wl_h hS17683.toHeld (r_move (v := .int .i64 _) rfl) <| wl_h hS17683.toHeld (r_move (v := .int .i64 _) rfl) ?_
       obtain ⟨x17707, hx17708, h17709, h17710, hM⟩ := getK_ok hM
       obtain ⟨es17711, hes17712, hR17713⟩ := row_read hrc17329 hx17708
       obtain rfl := hR17713
       refine wl_h hS17683.toHeld (r_indexAddr Try.underlying131 ty3 (b := _) (o := _) (n := _) (c := _) (i := set16460) rfl rfl h17709 (row_lt (hS17683.toHeld.own (.there .here)) hrc17329 (by decide) h17710)) <| wl_store_row ty3 hS17683 rfl (v := .int .i64 _) rfl (vs := [.int .i64 _]) rfl rfl rfl (.there .here) (Nat.le_trans (by simp only [Nat.zero_add]; omega) (row_room hrc17329 hx17708)) ?_
       intro w17714 hS17715
       have hrc17716 := RCs.seti hrc17329 hx17708 (vs := [.int .i64 (x17472.length + r17495)]) (y := x17472.length + r17495) rfl rfl
       generalize spl cs17327 (0 + set16460.toNat * 1) [.int .i64 (x17472.length + r17495)] = cs17717 at hS17715 hrc17716
       obtain ⟨x17718, hx17719, h17720, h17721, hM⟩ := getK_ok hM
       obtain ⟨b17722, rfl⟩ := row_some (hS17715.toHeld.own .here) hrc17322 (by decide) h17720 h17721
       obtain ⟨es17723, hes17724, hR17725⟩ := row_read hrc17322 hx17719
       obtain rfl := hR17725
       refine wl_h hS17715.toHeld (r_indexAddr Try.underlying35 ty3 (b := _) (o := _) (n := _) (c := _) (i := set16460) rfl rfl h17720 (row_lt (hS17715.toHeld.own .here) hrc17322 (by decide) h17721)) <| wl_store_row ty3 hS17715 rfl (v := .int .i64 _) rfl (vs := [.int .i64 _]) rfl rfl rfl .here (Nat.le_trans (by simp only [Nat.zero_add]; omega) (row_room hrc17322 hx17719)) ?_
       intro w17726 hS17727
       have hrc17728 := RCs.seti hrc17322 hx17719 (vs := [.int .i64 x17345]) (y := x17345) rfl rfl
       generalize spl cs17320 (0 + set16460.toNat * 1) [.int .i64 x17345] = cs17729 at hS17727 hrc17728
       refine wl_nil <| c_nil <| q_norm <| c_region ?_
       obtain ⟨hc17730, hM⟩ := chk_ok hM
       refine wl_h hS17727.toHeld (r_add (a := _) (b := _) rfl rfl (ok_lo hc17730) (ok_hi hc17730)) <| wl_h hS17727.toHeld (r_move (v := .int .i64 _) rfl) <| wl_nil <| c_nil <| q_loop ?_
       have hS17731 := hS17727.front (.there (.there .here))
       have hS17732 := hS17731.front (.there (.there (.there (.there .here))))
       have hS17733 := hS17732.front (.there (.there (.there (.there .here))))
       have hS17734 := hS17733.front (.there (.there (.there (.there .here))))
       have hS17735 := hS17734.front (.there (.there (.there (.there .here))))
       exact ⟨k_2, Nat.lt_succ_self _, x17315 + 1, (l17316.set set16460.toNat x17345), (l17323.set set16460.toNat (x17472.length + r17495)), (some ⟨b17722, 0, none⟩), l17316.length, c17319, cs17729, (some ⟨b17702, 0, none⟩), l17323.length, c17326, cs17717, hM, row_n (hS17735.toHeld.own .here) hrc17728 (by decide), hrc17728, row_n (hS17735.toHeld.own (.there .here)) hrc17716 (by decide), hrc17716, hS17735, rfl, rfl, rfl, rfl, rfl, rfl, rfl, rfl, rfl, rfl⟩
      ·replace hM := bif_f h17706 hM
       refine c_skip <| c_nil <| q_norm <| c_region ?_
       obtain ⟨hc17736, hM⟩ := chk_ok hM
       refine wl_h hS17683.toHeld (r_add (a := _) (b := _) rfl rfl (ok_lo hc17736) (ok_hi hc17736)) <| wl_h hS17683.toHeld (r_move (v := .int .i64 _) rfl) <| wl_nil <| c_nil <| q_loop ?_
       have hS17737 := hS17683.front (.there (.there .here))
       have hS17738 := hS17737.front (.there (.there (.there (.there .here))))
       have hS17739 := hS17738.front (.there (.there (.there (.there .here))))
       have hS17740 := hS17739.front (.there (.there (.there (.there .here))))
       have hS17741 := hS17740.front (.there (.there (.there (.there .here))))
       exact ⟨k_2, Nat.lt_succ_self _, x17315 + 1, l17316, l17323, a17317, l17316.length, c17319, cs17320, (some ⟨b17702, 0, none⟩), l17323.length, c17326, cs17327, hM, row_n (hS17741.toHeld.own .here) hrc17322 (by decide), hrc17322, row_n (hS17741.toHeld.own (.there .here)) hrc17329 (by decide), hrc17329, hS17741, rfl, rfl, rfl, rfl, rfl, rfl, rfl, rfl, rfl, rfl⟩
    ·replace hM := bif_f h17344 hM
     refine c_exit <| q_loopx <| q_hit <| c_nil <| q_norm <| c_region <| wl_h hS17333.toHeld (r_move (v := .int .i64 _) rfl) ?_
     obtain ⟨hc17742, hM⟩ := chk_ok hM
     refine wl_h hS17333.toHeld (r_add (a := _) (b := _) rfl rfl (ok_lo hc17742) (ok_hi hc17742)) <| wl_h hS17333.toHeld (r_assign (v := .int .i64 _) rfl) <| wl_nil <| c_nil <| q_loop ?_
     exact ⟨k_1, Nat.lt_succ_self _, set16460 + 1, l17316, l17323, m16509, a17317, l17316.length, c17319, cs17320, a17324, l17323.length, c17326, cs17327, hM, le16515, row_n (hS17333.toHeld.own .here) hrc17322 (by decide), hrc17322, row_n (hS17333.toHeld.own (.there .here)) hrc17329 (by decide), hrc17329, hS17333, rfl, rfl, rfl, rfl, rfl, rfl⟩
   ·replace hM := bif_f h16485 hM
    refine c_exit <| q_loopx <| q_hit <| c_seq <| c_region <| wl_h hS16478.toHeld (r_fieldAddr fld73_1 (b := _) (o := _) rfl) ?_
    refine wl_h hS16478.toHeld (r_box ty71 (k := 1) (.there (.there (.there (.there .here)))) rfl rfl rfl (v := .slice _ _ _) rfl) <| wl_h hS16478.toHeld (r_len Try.underlying71 (a := _) (n := _) (c := _) rfl) ?_
    obtain ⟨hc17745, hM⟩ := chk_ok hM
    refine wl_makeSlice Try.underlying35 ty3 rfl (by decide) hS16478 (l := _) (c := _) rfl rfl (mk_0 hc17745) (mk_1 hc17745) (mk_2 hc17745 (by decide)) (mk_3 hc17745) ?_
    intro b17743 w17744 hS17746
    have hrc17748 : RCs 1 RInt m16456 (reps [.int .i64 0] ((r3.streets.length : Nat) : Int).toNat) ((List.replicate ((r3.streets.length : Nat) : Int).toNat 0 : List Int) : List Int) := RCs.reps rfl rfl _
    refine wl_h hS17746.toHeld (r_assign (v := .slice _ _ _) rfl) <| wl_nil <| c_seq <| c_seq <| c_region <| wl_h hS17746.toHeld (r_move (v := .slice _ _ _) rfl) ?_
    refine wl_h hS17746.toHeld (r_len Try.underlying131 (a := _) (n := _) (c := _) rfl) ?_
    obtain ⟨hc17749, hM⟩ := chk_ok hM
    refine wl_h hS17746.toHeld (r_sub (a := _) (b := _) rfl rfl (ok_lo hc17749) (ok_hi hc17749)) <| wl_h hS17746.toHeld (r_assign (v := .int .i64 _) rfl) <| wl_nil <| c_block <| c_loop (fun k f w => ∃ (set18640 : Int) (l18641 : List Int) (a18642 : Option Addr) (n18643 : Nat) (c18644 : Nat) (cs18645 : List Value), mg54_l3 fuel r12 l11079 l16461 l16468 k set18640 l18641 = some r ∧ n18643 = l18641.length ∧ RCs 1 RInt m16456 cs18645 l18641 ∧ St w m16456 (.row (.slice a18642 n18643 c18644) 3 1 cs18645 :: .row (.slice a16462 l16461.length c16464) 3 1 cs16465 :: .row (.slice a16469 l16468.length c16471) 3 1 cs16472 :: .row (.slice a11080 l11079.length c11082) 129 1 cs11083 :: .row (.slice a15 r12.length c17) 3 1 cs18 :: .box b9 73 [.int .i64 r3.corners, .slice a4 r3.streets.length c6] :: L) ∧ f 4 = .slice a15 r12.length c17 ∧ f 5 = .slice a11080 l11079.length c11082 ∧ f 8 = .slice a16469 l16468.length c16471 ∧ f 9 = .slice a16462 l16461.length c16464 ∧ f 15 = .slice a18642 n18643 c18644 ∧ f 16 = .int .i64 set18640) fuel ⟨((l16468.length : Nat) : Int) - 1, (List.replicate ((r3.streets.length : Nat) : Int).toNat 0 : List Int), (some ⟨b17743, 0, none⟩), ((r3.streets.length : Nat) : Int).toNat, ((r3.streets.length : Nat) : Int).toNat, reps [.int .i64 0] ((r3.streets.length : Nat) : Int).toNat, hM, row_n (hS17746.toHeld.own .here) hrc17748 (by decide), hrc17748, hS17746, rfl, rfl, rfl, rfl, rfl, rfl⟩ ?_
    rintro k_3 f18648 w18649 ⟨set18640, l18641, a18642, n18643, c18644, cs18645, hM, hn18646, hrc18647, hS18651, e18652, e18653, e18654, e18655, e18656, e18657⟩
    subst hn18646
    refine c_know (t := 4) e18652 <| c_know (t := 5) e18653 <| c_know (t := 8) e18654 <| c_know (t := 9) e18655 <| c_know (t := 15) e18656 ?_
    refine c_know (t := 16) e18657 ?_
    clear e18652 e18653 e18654 e18655 e18656 e18657
    rcases k_3 with _ | k_3
    · exact none_ne hM
    rw [mg54_l3] at hM
    refine c_seq <| c_seq <| c_region <| wl_h hS18651.toHeld (r_move (v := .int .i64 _) rfl) <| wl_h hS18651.toHeld (r_gtr (a := _) (b := _) rfl rfl) ?_
    refine wl_nil <| c_cond (c := _) rfl (fun h18658 => ?_) (fun h18658 => ?_)
    ·replace hM := bif_t h18658 hM
     refine c_skip <| c_block <| c_seq ?_
     obtain ⟨x18692, hx18693, h18694, h18695, hM⟩ := getK_ok hM
     obtain ⟨r18700, hq18701, hM⟩ := bnd_ok hM
     obtain ⟨x18712, hx18713, h18714, h18715, hM⟩ := getK_ok hM
     have hH18723 := (hS18651.weaken (.cons_cons _ (.cons _ (.cons_cons _ (.cons_cons _ (.cons_cons _ (.cons_cons _ (.refl _)))))))).toHeld
     refine c_drawJ (k := 10) (fun f w => St w m16456 (.row (.slice a18642 l18641.length c18644) 3 1 cs18645 :: .row (.slice a16462 l16461.length c16464) 3 1 cs16465 :: .row (.slice a16469 l16468.length c16471) 3 1 cs16472 :: .row (.slice a11080 l11079.length c11082) 129 1 cs11083 :: .row (.slice a15 r12.length c17) 3 1 cs18 :: .box b9 73 [.int .i64 r3.corners, .slice a4 r3.streets.length c6] :: L) ∧ f 4 = .slice a15 r12.length c17 ∧ f 5 = .slice a11080 l11079.length c11082 ∧ f 8 = .slice a16469 l16468.length c16471 ∧ f 9 = .slice a16462 l16461.length c16464 ∧ f 15 = .slice a18642 l18641.length c18644 ∧ f 16 = .int .i64 set18640 ∧ f 17 = .int .i64 x18712 ∧ f 18 = .int .i64 x18692) (fun w => Held w m16456 (.row (.slice a18642 l18641.length c18644) 3 1 cs18645 :: .row (.slice a16469 l16468.length c16471) 3 1 cs16472 :: .row (.slice a11080 l11079.length c11082) 129 1 cs11083 :: .row (.slice a15 r12.length c17) 3 1 cs18 :: .box b9 73 [.int .i64 r3.corners, .slice a4 r3.streets.length c6] :: L)) mixed rfl ?_ ?_
     ·replace hH18723 := hH18723.drew1
      have hS18724 := hS18651.drew1
      refine d_v (i := 0) rfl (by kernel_rfl) rfl (r_move (v := .int .i64 _) rfl) hH18723 ?_
      refine d_v (i := 4) rfl (by kernel_rfl) rfl (r_move (v := .slice _ _ _) rfl) hH18723 ?_
      refine d_v (i := 5) rfl (by kernel_rfl) rfl (r_move (v := .int .i64 _) rfl) hH18723 ?_
      obtain ⟨b18725, rfl⟩ := row_some (hS18724.toHeld.own (.there .here)) hrc16467 (by decide) h18694 h18695
      obtain ⟨es18726, hes18727, hR18728⟩ := row_read hrc16467 hx18693
      obtain rfl := hR18728
      refine d_v (i := 6) rfl (by kernel_rfl) rfl (r_indexAddr Try.underlying35 ty3 (b := _) (o := _) (n := _) (c := _) (i := set18640) rfl rfl h18694 (row_lt (hS18724.toHeld.own (.there .here)) hrc16467 (by decide) h18695)) hH18723 ?_
      refine d_all (rs := [1, 7]) (by kernel_rfl) (by simp) (fun j hj o ho => ?_)
      simp only [List.mem_cons, List.not_mem_nil, or_false] at hj
      rcases hj with rfl | rfl
      ·cases ho
       refine wl_call ent65 (vals := [.int .i64 _]) rfl (cg65 hS18724 hq18701) ?_
       rintro _ w18736 ⟨a18730, n18731, c18732, cs18733, rfl, rfl, hrc18734, hS18737⟩
       refine wl_nil ?_
       have hH18738 := hS18737.toHeld.mono (Mem.le_refl _) (List.Sublist.subset (.cons _ (.cons_cons _ (.cons _ (.cons_cons _ (.cons_cons _ (.cons_cons _ (.cons_cons _ (.refl _)))))))))
       refine ⟨hH18738, ?_⟩
       obtain ⟨b18739, rfl⟩ := row_some (hS18737.toHeld.own .here) hrc18734 (by decide) h18714 h18715
       obtain ⟨es18740, hes18741, hR18742⟩ := row_read hrc18734 hx18713
       obtain rfl := hR18742
       refine d_v (i := 2) rfl (by kernel_rfl) rfl (r_indexAddr Try.underlying35 ty3 (b := _) (o := _) (n := _) (c := _) (i := 0) rfl rfl h18714 (row_lt (hS18737.toHeld.own .here) hrc18734 (by decide) h18715)) hH18738 ?_
       refine d_all (rs := [3, 7]) (by kernel_rfl) (by simp) (fun j hj o ho => ?_)
       simp only [List.mem_cons, List.not_mem_nil, or_false] at hj
       rcases hj with rfl | rfl
       ·cases ho
        refine wl_h hS18737.toHeld (r_row ty3 (k := 0) (i := (0 : Int).toNat) .here rfl rfl (row_room hrc18734 hx18713) hes18741 rfl (v := .int .i64 _) rfl) <| wl_nil ?_
        have hH18743 := hS18737.toHeld.mono (Mem.le_refl _) (List.Sublist.subset (.cons _ (.cons_cons _ (.cons _ (.cons_cons _ (.cons_cons _ (.cons_cons _ (.cons_cons _ (.refl _)))))))))
        refine ⟨hH18743, ?_⟩
        refine d_v (i := 8) rfl (by kernel_rfl) rfl (r_assign (v := .int .i64 _) rfl) hH18743 ?_
        refine d_all (rs := [7]) (by kernel_rfl) (by simp) (fun j hj o ho => ?_)
        obtain rfl : j = 7 := by simpa using hj
        cases ho
        refine wl_h hS18737.toHeld (r_row ty3 (k := 0) (i := set18640.toNat) (.there (.there .here)) rfl rfl (row_room hrc16467 hx18693) hes18727 rfl (v := .int .i64 _) rfl) <| wl_nil ?_
        have hH18744 := hS18737.toHeld.mono (Mem.le_refl _) (List.Sublist.subset (.cons _ (.cons_cons _ (.cons _ (.cons_cons _ (.cons_cons _ (.cons_cons _ (.cons_cons _ (.refl _)))))))))
        refine ⟨hH18744, ?_⟩
        refine d_v (i := 9) rfl (by kernel_rfl) rfl (r_assign (v := .int .i64 _) rfl) hH18744 ?_
        refine d_end (by kernel_rfl) ?_
        have hS18745 := hS18737.weaken (.cons _ (.cons_cons _ (.cons_cons _ (.cons_cons _ (.cons_cons _ (.cons_cons _ (.cons_cons _ (.refl _))))))))
        exact ⟨hS18745, rfl, rfl, rfl, rfl, rfl, rfl, rfl, rfl⟩
       ·cases ho
        refine wl_h hS18737.toHeld (r_row ty3 (k := 0) (i := set18640.toNat) (.there (.there .here)) rfl rfl (row_room hrc16467 hx18693) hes18727 rfl (v := .int .i64 _) rfl) <| wl_nil ?_
        have hH18746 := hS18737.toHeld.mono (Mem.le_refl _) (List.Sublist.subset (.cons _ (.cons_cons _ (.cons _ (.cons_cons _ (.cons_cons _ (.cons_cons _ (.cons_cons _ (.refl _)))))))))
        refine ⟨hH18746, ?_⟩
        refine d_all (rs := [3]) (by kernel_rfl) (by simp) (fun j hj o ho => ?_)
        obtain rfl : j = 3 := by simpa using hj
        cases ho
        refine wl_h hS18737.toHeld (r_row ty3 (k := 0) (i := (0 : Int).toNat) .here rfl rfl (row_room hrc18734 hx18713) hes18741 rfl (v := .int .i64 _) rfl) <| wl_nil ?_
        have hH18747 := hS18737.toHeld.mono (Mem.le_refl _) (List.Sublist.subset (.cons _ (.cons_cons _ (.cons _ (.cons_cons _ (.cons_cons _ (.cons_cons _ (.cons_cons _ (.refl _)))))))))
        refine ⟨hH18747, ?_⟩
        refine d_v (i := 8) rfl (by kernel_rfl) rfl (r_assign (v := .int .i64 _) rfl) hH18747 ?_
        refine d_v (i := 9) rfl (by kernel_rfl) rfl (r_assign (v := .int .i64 _) rfl) hH18747 ?_
        refine d_end (by kernel_rfl) ?_
        have hS18748 := hS18737.weaken (.cons _ (.cons_cons _ (.cons_cons _ (.cons_cons _ (.cons_cons _ (.cons_cons _ (.cons_cons _ (.refl _))))))))
        exact ⟨hS18748, rfl, rfl, rfl, rfl, rfl, rfl, rfl, rfl⟩
      ·cases ho
       refine wl_h hS18724.toHeld (r_row ty3 (k := 0) (i := set18640.toNat) (.there .here) rfl rfl (row_room hrc16467 hx18693) hes18727 rfl (v := .int .i64 _) rfl) <| wl_nil ?_
       have hH18749 := hS18724.toHeld.mono (Mem.le_refl _) (List.Sublist.subset (.cons_cons _ (.cons _ (.cons_cons _ (.cons_cons _ (.cons_cons _ (.cons_cons _ (.refl _))))))))
       refine ⟨hH18749, ?_⟩
       refine d_all (rs := [1]) (by kernel_rfl) (by simp) (fun j hj o ho => ?_)
       obtain rfl : j = 1 := by simpa using hj
       cases ho
       refine wl_call ent65 (vals := [.int .i64 _]) rfl (cg65 hS18724 hq18701) ?_
       rintro _ w18757 ⟨a18751, n18752, c18753, cs18754, rfl, rfl, hrc18755, hS18758⟩
       refine wl_nil ?_
       have hH18759 := hS18758.toHeld.mono (Mem.le_refl _) (List.Sublist.subset (.cons _ (.cons_cons _ (.cons _ (.cons_cons _ (.cons_cons _ (.cons_cons _ (.cons_cons _ (.refl _)))))))))
       refine ⟨hH18759, ?_⟩
       obtain ⟨b18760, rfl⟩ := row_some (hS18758.toHeld.own .here) hrc18755 (by decide) h18714 h18715
       obtain ⟨es18761, hes18762, hR18763⟩ := row_read hrc18755 hx18713
       obtain rfl := hR18763
       refine d_v (i := 2) rfl (by kernel_rfl) rfl (r_indexAddr Try.underlying35 ty3 (b := _) (o := _) (n := _) (c := _) (i := 0) rfl rfl h18714 (row_lt (hS18758.toHeld.own .here) hrc18755 (by decide) h18715)) hH18759 ?_
       refine d_all (rs := [3]) (by kernel_rfl) (by simp) (fun j hj o ho => ?_)
       obtain rfl : j = 3 := by simpa using hj
       cases ho
       refine wl_h hS18758.toHeld (r_row ty3 (k := 0) (i := (0 : Int).toNat) .here rfl rfl (row_room hrc18755 hx18713) hes18762 rfl (v := .int .i64 _) rfl) <| wl_nil ?_
       have hH18764 := hS18758.toHeld.mono (Mem.le_refl _) (List.Sublist.subset (.cons _ (.cons_cons _ (.cons _ (.cons_cons _ (.cons_cons _ (.cons_cons _ (.cons_cons _ (.refl _)))))))))
       refine ⟨hH18764, ?_⟩
       refine d_v (i := 8) rfl (by kernel_rfl) rfl (r_assign (v := .int .i64 _) rfl) hH18764 ?_
       refine d_v (i := 9) rfl (by kernel_rfl) rfl (r_assign (v := .int .i64 _) rfl) hH18764 ?_
       refine d_end (by kernel_rfl) ?_
       have hS18765 := hS18758.weaken (.cons _ (.cons_cons _ (.cons_cons _ (.cons_cons _ (.cons_cons _ (.cons_cons _ (.cons_cons _ (.refl _))))))))
       exact ⟨hS18765, rfl, rfl, rfl, rfl, rfl, rfl, rfl, rfl⟩
     ·rintro f18775 w18776 ⟨hS18766, e18767, e18768, e18769, e18770, e18771, e18772, e18773, e18774⟩
      refine c_know (t := 4) e18767 <| c_know (t := 5) e18768 <| c_know (t := 8) e18769 <| c_know (t := 9) e18770 <| c_know (t := 15) e18771 ?_
      refine c_know (t := 16) e18772 <| c_know (t := 17) e18773 <| c_know (t := 18) e18774 ?_
      clear e18767 e18768 e18769 e18770 e18771 e18772 e18773 e18774
      refine c_seq <| c_seq ?_
      obtain ⟨x18816, hx18817, h18818, h18819, hM⟩ := getK_ok hM
      obtain ⟨x18828, hx18829, h18830, h18831, hM⟩ := getK_ok hM
      obtain ⟨x18838, hx18839, h18840, h18841, hM⟩ := getK_ok hM
      have hH18857 := (hS18766.weaken (.cons_cons _ (.cons_cons _ (.cons_cons _ (.cons _ (.cons _ (.cons_cons _ (.refl _)))))))).toHeld
      refine c_drawJ (k := 13) (fun f w => ∃ (a18853 : Option Addr) (n18854 : Nat) (c18855 : Nat), RSl 1 RInt m16456 a18853 n18854 c18855 (x18838.along.getD []) ∧ St w m16456 (.row (.slice a18642 l18641.length c18644) 3 1 cs18645 :: .row (.slice a16462 l16461.length c16464) 3 1 cs16465 :: .row (.slice a16469 l16468.length c16471) 3 1 cs16472 :: .row (.slice a11080 l11079.length c11082) 129 1 cs11083 :: .row (.slice a15 r12.length c17) 3 1 cs18 :: .box b9 73 [.int .i64 r3.corners, .slice a4 r3.streets.length c6] :: L) ∧ f 4 = .slice a15 r12.length c17 ∧ f 5 = .slice a11080 l11079.length c11082 ∧ f 8 = .slice a16469 l16468.length c16471 ∧ f 9 = .slice a16462 l16461.length c16464 ∧ f 15 = .slice a18642 l18641.length c18644 ∧ f 16 = .int .i64 set18640 ∧ f 17 = .int .i64 x18712 ∧ f 18 = .int .i64 x18692 ∧ f 129 = .slice a18853 n18854 c18855 ∧ f 130 = .int .i64 (((x18838.along.getD []).length : Nat) : Int) ∧ f 131 = .int .i64 0) (fun w => Held w m16456 (.row (.slice a18642 l18641.length c18644) 3 1 cs18645 :: .row (.slice a16462 l16461.length c16464) 3 1 cs16465 :: .row (.slice a16469 l16468.length c16471) 3 1 cs16472 :: .box b9 73 [.int .i64 r3.corners, .slice a4 r3.streets.length c6] :: L)) mixed rfl ?_ ?_
      ·replace hH18857 := hH18857.drew1
       have hS18858 := hS18766.drew1
       refine d_v (i := 0) rfl (by kernel_rfl) rfl (r_move (v := .slice _ _ _) rfl) hH18857 ?_
       refine d_v (i := 1) rfl (by kernel_rfl) rfl (r_move (v := .int .i64 _) rfl) hH18857 ?_
       obtain ⟨b18859, rfl⟩ := row_some (hS18858.toHeld.own (.there (.there (.there .here)))) hrc11085 (by decide) h18818 h18819
       obtain ⟨es18860, hes18861, hR18862⟩ := row_read hrc11085 hx18817
       obtain ⟨a18863, n18864, c18865, rfl, hr18866⟩ := hR18862
       obtain rfl := hr18866.1
       refine d_v (i := 2) rfl (by kernel_rfl) rfl (r_indexAddr Try.underlying128 ty129 (b := _) (o := _) (n := _) (c := _) (i := x18712) rfl rfl h18818 (row_lt (hS18858.toHeld.own (.there (.there (.there .here)))) hrc11085 (by decide) h18819)) hH18857 ?_
       refine d_v (i := 4) rfl (by kernel_rfl) rfl (r_move (v := .slice _ _ _) rfl) hH18857 ?_
       refine d_v (i := 5) rfl (by kernel_rfl) rfl (r_move (v := .int .i64 _) rfl) hH18857 ?_
       obtain ⟨b18867, rfl⟩ := row_some (hS18858.toHeld.own (.there (.there (.there (.there .here))))) hrc19 (by decide) h18830 h18831
       obtain ⟨es18868, hes18869, hR18870⟩ := row_read hrc19 hx18829
       obtain rfl := hR18870
       refine d_v (i := 6) rfl (by kernel_rfl) rfl (r_indexAddr Try.underlying35 ty3 (b := _) (o := _) (n := _) (c := _) (i := x18692) rfl rfl h18830 (row_lt (hS18858.toHeld.own (.there (.there (.there (.there .here))))) hrc19 (by decide) h18831)) hH18857 ?_
       refine d_v (i := 12) rfl (by kernel_rfl) rfl (r_move (v := .int .i64 _) rfl) hH18857 ?_
       refine d_all (rs := [3, 7]) (by kernel_rfl) (by simp) (fun j hj o ho => ?_)
       simp only [List.mem_cons, List.not_mem_nil, or_false] at hj
       rcases hj with rfl | rfl
       ·cases ho
        refine wl_h hS18858.toHeld (r_row ty129 (k := 0) (i := x18712.toNat) (.there (.there (.there .here))) rfl rfl (row_room hrc11085 hx18817) hes18861 rfl (v := .slice _ _ _) rfl) <| wl_nil ?_
        have hH18871 := hS18858.toHeld.mono (Mem.le_refl _) (List.Sublist.subset (.cons_cons _ (.cons_cons _ (.cons_cons _ (.cons _ (.cons _ (.cons_cons _ (.refl _))))))))
        refine ⟨hH18871, ?_⟩
        refine d_all (rs := [7]) (by kernel_rfl) (by simp) (fun j hj o ho => ?_)
        obtain rfl : j = 7 := by simpa using hj
        cases ho
        refine wl_h hS18858.toHeld (r_row ty3 (k := 0) (i := x18692.toNat) (.there (.there (.there (.there .here)))) rfl rfl (row_room hrc19 hx18829) hes18869 rfl (v := .int .i64 _) rfl) <| wl_nil ?_
        have hH18872 := hS18858.toHeld.mono (Mem.le_refl _) (List.Sublist.subset (.cons_cons _ (.cons_cons _ (.cons_cons _ (.cons _ (.cons _ (.cons_cons _ (.refl _))))))))
        refine ⟨hH18872, ?_⟩
        obtain ⟨b18873, o18874, rfl⟩ := RSl.elem_a hr18866 hx18839
        obtain ⟨cs18875, hI18876, hR18877⟩ := RSl.elem_at hr18866 hx18839
        have hk18882 := hR18877
        obtain ⟨a18878, n18879, c18880, rfl, hr18881⟩ := hR18877
        obtain rfl := (ROp.rsl hr18881).1
        refine d_v (i := 8) rfl (by kernel_rfl) rfl (r_indexAddr Try.underlying129 ty133 (b := _) (o := _) (n := _) (c := _) (i := x18828) rfl rfl h18840 (RSl.lt hr18866 h18841)) hH18872 ?_
        refine d_v (i := 9) rfl (by kernel_rfl) rfl (r_fieldAddr fld133_1 (b := _) (o := _) rfl) hH18872 ?_
        refine d_v (i := 10) rfl (by kernel_rfl) rfl (r_imm ty35 (k := 1) hI18876 rfl rfl rfl (v := .slice _ _ _) rfl) hH18872 ?_
        have hr18883 := ROp.rsl hr18881
        refine d_v (i := 11) rfl (by kernel_rfl) rfl (r_len Try.underlying35 (a := _) (n := _) (c := _) rfl) hH18872 ?_
        refine d_end (by kernel_rfl) ?_
        exact ⟨_, _, _, hr18883, hS18858, rfl, rfl, rfl, rfl, rfl, rfl, rfl, rfl, rfl, rfl, rfl⟩
       ·cases ho
        refine wl_h hS18858.toHeld (r_row ty3 (k := 0) (i := x18692.toNat) (.there (.there (.there (.there .here)))) rfl rfl (row_room hrc19 hx18829) hes18869 rfl (v := .int .i64 _) rfl) <| wl_nil ?_
        have hH18884 := hS18858.toHeld.mono (Mem.le_refl _) (List.Sublist.subset (.cons_cons _ (.cons_cons _ (.cons_cons _ (.cons _ (.cons _ (.cons_cons _ (.refl _))))))))
        refine ⟨hH18884, ?_⟩
        refine d_all (rs := [3]) (by kernel_rfl) (by simp) (fun j hj o ho => ?_)
        obtain rfl : j = 3 := by simpa using hj
        cases ho
        refine wl_h hS18858.toHeld (r_row ty129 (k := 0) (i := x18712.toNat) (.there (.there (.there .here))) rfl rfl (row_room hrc11085 hx18817) hes18861 rfl (v := .slice _ _ _) rfl) <| wl_nil ?_
        have hH18885 := hS18858.toHeld.mono (Mem.le_refl _) (List.Sublist.subset (.cons_cons _ (.cons_cons _ (.cons_cons _ (.cons _ (.cons _ (.cons_cons _ (.refl _))))))))
        refine ⟨hH18885, ?_⟩
        obtain ⟨b18886, o18887, rfl⟩ := RSl.elem_a hr18866 hx18839
        obtain ⟨cs18888, hI18889, hR18890⟩ := RSl.elem_at hr18866 hx18839
        have hk18895 := hR18890
        obtain ⟨a18891, n18892, c18893, rfl, hr18894⟩ := hR18890
        obtain rfl := (ROp.rsl hr18894).1
        refine d_v (i := 8) rfl (by kernel_rfl) rfl (r_indexAddr Try.underlying129 ty133 (b := _) (o := _) (n := _) (c := _) (i := x18828) rfl rfl h18840 (RSl.lt hr18866 h18841)) hH18885 ?_
        refine d_v (i := 9) rfl (by kernel_rfl) rfl (r_fieldAddr fld133_1 (b := _) (o := _) rfl) hH18885 ?_
        refine d_v (i := 10) rfl (by kernel_rfl) rfl (r_imm ty35 (k := 1) hI18889 rfl rfl rfl (v := .slice _ _ _) rfl) hH18885 ?_
        have hr18896 := ROp.rsl hr18894
        refine d_v (i := 11) rfl (by kernel_rfl) rfl (r_len Try.underlying35 (a := _) (n := _) (c := _) rfl) hH18885 ?_
        refine d_end (by kernel_rfl) ?_
        exact ⟨_, _, _, hr18896, hS18858, rfl, rfl, rfl, rfl, rfl, rfl, rfl, rfl, rfl, rfl, rfl⟩
      ·rintro f18909 w18910 ⟨a18853, n18854, c18855, hr18856, hS18897, e18898, e18899, e18900, e18901, e18902, e18903, e18904, e18905, e18906, e18907, e18908⟩
       obtain rfl := hr18856.1
       refine c_know (t := 4) e18898 <| c_know (t := 5) e18899 <| c_know (t := 8) e18900 <| c_know (t := 9) e18901 <| c_know (t := 15) e18902 ?_
       refine c_know (t := 16) e18903 <| c_know (t := 17) e18904 <| c_know (t := 18) e18905 <| c_know (t := 129) e18906 <| c_know (t := 130) e18907 ?_
       refine c_know (t := 131) e18908 ?_
       clear e18898 e18899 e18900 e18901 e18902 e18903 e18904 e18905 e18906 e18907 e18908
       refine c_block <| c_loop (fun k f w => ∃ (x19000 : Int) (l19001 : List Int) (a19002 : Option Addr) (n19003 : Nat) (c19004 : Nat) (cs19005 : List Value), mg54_l4 fuel set18640 x18692 x18712 x18838 (mg54_l3 fuel r12 l11079 l16461 l16468 k_3) k x19000 l19001 = some r ∧ n19003 = l19001.length ∧ RCs 1 RInt m16456 cs19005 l19001 ∧ St w m16456 (.row (.slice a19002 n19003 c19004) 3 1 cs19005 :: .row (.slice a16462 l16461.length c16464) 3 1 cs16465 :: .row (.slice a16469 l16468.length c16471) 3 1 cs16472 :: .row (.slice a11080 l11079.length c11082) 129 1 cs11083 :: .row (.slice a15 r12.length c17) 3 1 cs18 :: .box b9 73 [.int .i64 r3.corners, .slice a4 r3.streets.length c6] :: L) ∧ f 4 = .slice a15 r12.length c17 ∧ f 5 = .slice a11080 l11079.length c11082 ∧ f 8 = .slice a16469 l16468.length c16471 ∧ f 9 = .slice a16462 l16461.length c16464 ∧ f 15 = .slice a19002 n19003 c19004 ∧ f 16 = .int .i64 set18640 ∧ f 17 = .int .i64 x18712 ∧ f 18 = .int .i64 x18692 ∧ f 129 = .slice a18853 ((x18838.along.getD []).length) c18855 ∧ f 130 = .int .i64 (((x18838.along.getD []).length : Nat) : Int) ∧ f 131 = .int .i64 x19000) fuel ⟨0, l18641, a18642, l18641.length, c18644, cs18645, hM, row_n (hS18897.toHeld.own .here) hrc18647 (by decide), hrc18647, hS18897, rfl, rfl, rfl, rfl, rfl, rfl, rfl, rfl, rfl, rfl, rfl⟩ ?_
       rintro k_4 f19008 w19009 ⟨x19000, l19001, a19002, n19003, c19004, cs19005, hM, hn19006, hrc19007, hS19011, e19012, e19013, e19014, e19015, e19016, e19017, e19018, e19019, e19020, e19021, e19022⟩
       subst hn19006
       refine c_know (t := 4) e19012 <| c_know (t := 5) e19013 <| c_know (t := 8) e19014 <| c_know (t := 9) e19015 <| c_know (t := 15) e19016 ?_
       refine c_know (t := 16) e19017 <| c_know (t := 17) e19018 <| c_know (t := 18) e19019 <| c_know (t := 129) e19020 <| c_know (t := 130) e19021 ?_
       refine c_know (t := 131) e19022 ?_
       clear e19012 e19013 e19014 e19015 e19016 e19017 e19018 e19019 e19020 e19021 e19022
       rcases k_4 with _ | k_4
       · exact none_ne hM
       rw [mg54_l4] at hM
       refine c_seq <| c_region <| wl_h hS19011.toHeld (r_lss (a := _) (b := _) rfl rfl) <| wl_nil <| c_seq <| c_cond (c := _) rfl (fun h19023 => ?_) (fun h19023 => ?_)
       ·replace hM := bif_t h19023 hM
        refine c_skip <| c_seq <| c_block <| c_seq <| c_region <| wl_h hS19011.toHeld (r_move (v := .int .i64 _) rfl) ?_
        obtain ⟨x19024, hx19025, h19026, h19027, hM⟩ := getK_ok hM
        obtain ⟨b19028, o19029, rfl⟩ := RSl.elem_a hr18856 hx19025
        obtain ⟨cs19030, hI19031, hR19032⟩ := RSl.elem_at hr18856 hx19025
        obtain rfl := hR19032
        refine wl_h hS19011.toHeld (r_indexAddr Try.underlying35 ty3 (b := _) (o := _) (n := _) (c := _) (i := x19000) rfl rfl h19026 (RSl.lt hr18856 h19027)) <| wl_h hS19011.toHeld (r_imm ty3 (k := 0) hI19031 rfl rfl rfl (v := .int .i64 _) rfl) <| wl_h hS19011.toHeld (r_assign (v := .int .i64 _) rfl) <| wl_h hS19011.toHeld (r_assign (v := .int .i64 _) rfl) <| wl_nil <| c_region <| wl_h hS19011.toHeld (r_move (v := .slice _ _ _) rfl) ?_
        refine wl_h hS19011.toHeld (r_move (v := .int .i64 _) rfl) <| wl_h hS19011.toHeld (r_move (v := .slice _ _ _) rfl) <| wl_h hS19011.toHeld (r_move (v := .int .i64 _) rfl) ?_
        obtain ⟨x19033, hx19034, h19035, h19036, hM⟩ := getK_ok hM
        obtain ⟨b19037, rfl⟩ := row_some (hS19011.toHeld.own .here) hrc19007 (by decide) h19035 h19036
        obtain ⟨es19038, hes19039, hR19040⟩ := row_read hrc19007 hx19034
        obtain rfl := hR19040
        refine wl_h hS19011.toHeld (r_indexAddr Try.underlying35 ty3 (b := _) (o := _) (n := _) (c := _) (i := x19000) rfl rfl h19035 (row_lt (hS19011.toHeld.own .here) hrc19007 (by decide) h19036)) <| wl_h hS19011.toHeld (r_row ty3 (k := 0) (i := x19000.toNat) .here rfl rfl (row_room hrc19007 hx19034) hes19039 rfl (v := .int .i64 _) rfl) <| wl_h hS19011.toHeld (r_move (v := .int .i64 _) rfl) ?_
        obtain ⟨hc19041, hM⟩ := chk_ok hM
        refine wl_h hS19011.toHeld (r_add (a := _) (b := _) rfl rfl (ok_lo hc19041) (ok_hi hc19041)) ?_
        obtain ⟨hc19042, hM⟩ := chk_ok hM
        refine wl_h hS19011.toHeld (r_remk (a := _) (b := _) rfl rfl hc19042) ?_
        obtain ⟨x19043, hx19044, h19045, h19046, hM⟩ := getK_ok hM
        obtain ⟨es19047, hes19048, hR19049⟩ := row_read hrc19007 hx19044
        obtain rfl := hR19049
        refine wl_h hS19011.toHeld (r_indexAddr Try.underlying35 ty3 (b := _) (o := _) (n := _) (c := _) (i := x19000) rfl rfl h19045 (row_lt (hS19011.toHeld.own .here) hrc19007 (by decide) h19046)) <| wl_store_row ty3 hS19011 rfl (v := .int .i64 _) rfl (vs := [.int .i64 _]) rfl rfl rfl .here (Nat.le_trans (by simp only [Nat.zero_add]; omega) (row_room hrc19007 hx19044)) ?_
        intro w19050 hS19051
        have hrc19052 := RCs.seti hrc19007 hx19044 (vs := [.int .i64 ((x19033 + x19024).tmod 2)]) (y := (x19033 + x19024).tmod 2) rfl rfl
        generalize spl cs19005 (0 + x19000.toNat * 1) [.int .i64 ((x19033 + x19024).tmod 2)] = cs19053 at hS19051 hrc19052
        refine wl_nil <| c_nil <| q_norm <| c_region ?_
        obtain ⟨hc19054, hM⟩ := chk_ok hM
        refine wl_h hS19051.toHeld (r_add (a := _) (b := _) rfl rfl (ok_lo hc19054) (ok_hi hc19054)) <| wl_h hS19051.toHeld (r_move (v := .int .i64 _) rfl) <| wl_nil <| c_nil <| q_loop ?_
        exact ⟨k_4, Nat.lt_succ_self _, x19000 + 1, (l19001.set x19000.toNat ((x19033 + x19024).tmod 2)), (some ⟨b19037, 0, none⟩), l19001.length, c19004, cs19053, hM, row_n (hS19051.toHeld.own .here) hrc19052 (by decide), hrc19052, hS19051, rfl, rfl, rfl, rfl, rfl, rfl, rfl, rfl, rfl, rfl, rfl⟩
       ·replace hM := bif_f h19023 hM
        refine c_exit <| q_loopx <| q_hit ?_
        have hH19059 := (hS19011.weaken (.cons_cons _ (.cons_cons _ (.cons_cons _ (.cons_cons _ (.cons_cons _ (.cons_cons _ (.refl _)))))))).toHeld
        refine c_draw (k := 8) (fun w => Held w m16456 (.row (.slice a19002 l19001.length c19004) 3 1 cs19005 :: .row (.slice a16462 l16461.length c16464) 3 1 cs16465 :: .row (.slice a16469 l16468.length c16471) 3 1 cs16472 :: .row (.slice a11080 l11079.length c11082) 129 1 cs11083 :: .row (.slice a15 r12.length c17) 3 1 cs18 :: .box b9 73 [.int .i64 r3.corners, .slice a4 r3.streets.length c6] :: L)) mixed rfl ?_
        replace hH19059 := hH19059.drew1
        have hS19060 := hS19011.drew1
        refine d_v (i := 0) rfl (by kernel_rfl) rfl (r_move (v := .int .i64 _) rfl) hH19059 ?_
        refine d_v (i := 1) rfl (by kernel_rfl) rfl (r_move (v := .int .i64 _) rfl) hH19059 ?_
        obtain ⟨hc19061, hM⟩ := chk_ok hM
        refine d_v (i := 2) rfl (by kernel_rfl) rfl (r_shl (a := _) (b := _) rfl rfl hc19061) hH19059 ?_
        refine d_v (i := 3) rfl (by kernel_rfl) rfl (r_move (v := .int .i64 _) rfl) hH19059 ?_
        obtain ⟨hc19062, hM⟩ := chk_ok hM
        refine d_v (i := 4) rfl (by kernel_rfl) rfl (r_shl (a := _) (b := _) rfl rfl hc19062) hH19059 ?_
        refine d_v (i := 5) rfl (by kernel_rfl) rfl (r_or (a := _) (b := _) rfl rfl) hH19059 ?_
        refine d_v (i := 6) rfl (by kernel_rfl) rfl (r_xor (a := _) (b := _) rfl rfl) hH19059 ?_
        refine d_v (i := 7) rfl (by kernel_rfl) rfl (r_assign (v := .int .i64 _) rfl) hH19059 ?_
        refine d_end (by kernel_rfl) ?_
        refine c_nil <| q_norm <| c_nil <| q_loop ?_
        exact ⟨k_3, Nat.lt_succ_self _, ixor set18640 (ior (ishl 1 x18712) (ishl 1 x18692)), l19001, a19002, l19001.length, c19004, cs19005, hM, row_n (hS19060.toHeld.own .here) hrc19007 (by decide), hrc19007, hS19060, rfl, rfl, rfl, rfl, rfl, rfl⟩
    ·replace hM := bif_f h18658 hM
     refine c_exit <| q_loopx <| q_hit <| c_seq ?_
     have hH19086 := (hS18651.weaken (.cons_cons _ (.cons_cons _ (.cons _ (.cons_cons _ (.cons_cons _ (.cons_cons _ (.refl _)))))))).toHeld
     refine c_draw (k := 9) (fun w => Held w m16456 (.row (.slice a18642 l18641.length c18644) 3 1 cs18645 :: .row (.slice a16462 l16461.length c16464) 3 1 cs16465 :: .row (.slice a11080 l11079.length c11082) 129 1 cs11083 :: .row (.slice a15 r12.length c17) 3 1 cs18 :: .box b9 73 [.int .i64 r3.corners, .slice a4 r3.streets.length c6] :: L)) mixed rfl ?_
     replace hH19086 := hH19086.drew1
     have hS19087 := hS18651.drew1
     refine d_v (i := 0) rfl (by kernel_rfl) rfl (r_move (v := .slice _ _ _) rfl) hH19086 ?_
     refine d_v (i := 1) rfl (by kernel_rfl) rfl (r_move (v := .slice _ _ _) rfl) hH19086 ?_
     refine d_v (i := 2) rfl (by kernel_rfl) rfl (r_move (v := .slice _ _ _) rfl) hH19086 ?_
     refine d_v (i := 3) rfl (by kernel_rfl) rfl (r_len Try.underlying131 (a := _) (n := _) (c := _) rfl) hH19086 ?_
     obtain ⟨hc19088, hM⟩ := chk_ok hM
     refine d_v (i := 4) rfl (by kernel_rfl) rfl (r_sub (a := _) (b := _) rfl rfl (ok_lo hc19088) (ok_hi hc19088)) hH19086 ?_
     obtain ⟨x19089, hx19090, h19091, h19092, hM⟩ := getK_ok hM
     obtain ⟨b19093, rfl⟩ := row_some (hS19087.toHeld.own (.there (.there .here))) hrc16474 (by decide) h19091 h19092
     obtain ⟨es19094, hes19095, hR19096⟩ := row_read hrc16474 hx19090
     obtain rfl := hR19096
     refine d_v (i := 5) rfl (by kernel_rfl) rfl (r_indexAddr Try.underlying131 ty3 (b := _) (o := _) (n := _) (c := _) (i := ((l16468.length : Nat) : Int) - 1) rfl rfl h19091 (row_lt (hS19087.toHeld.own (.there (.there .here))) hrc16474 (by decide) h19092)) hH19086 ?_
     refine d_v (i := 7) rfl (by kernel_rfl) rfl (r_assign (v := .slice _ _ _) rfl) hH19086 ?_
     refine d_all (rs := [6]) (by kernel_rfl) (by simp) (fun j hj o ho => ?_)
     obtain rfl : j = 6 := by simpa using hj
     cases ho
     refine wl_h hS19087.toHeld (r_row ty3 (k := 0) (i := (((l16468.length : Nat) : Int) - 1).toNat) (.there (.there .here)) rfl rfl (row_room hrc16474 hx19090) hes19095 rfl (v := .int .i64 _) rfl) <| wl_nil ?_
     have hH19097 := hS19087.toHeld.mono (Mem.le_refl _) (List.Sublist.subset (.cons_cons _ (.cons_cons _ (.cons _ (.cons_cons _ (.cons_cons _ (.cons_cons _ (.refl _))))))))
     refine ⟨hH19097, ?_⟩
     refine d_v (i := 8) rfl (by kernel_rfl) rfl (r_assign (v := .int .i64 _) rfl) hH19097 ?_
     refine d_end (by kernel_rfl) ?_
     refine c_ret <| ret_many rfl (.tmp (v := .slice _ _ _) rfl (.tmp (v := .int .i64 _) rfl .nil)) ?_
     obtain rfl := some_eq hM
     have hS19098 := hS19087.weaken (.cons_cons _ (.cons _ (.cons _ (.cons _ (.cons _ (.cons _ (.refl _)))))))
     exact ⟨a18642, l18641.length, c18644, cs18645, rfl, row_n (hS19098.toHeld.own .here) hrc18647 (by decide), (RCs.move RInt.any hrc18647), (St.back hS19098 le16458)⟩

theorem cg55 {m : Mem} {L : List Atom} {w : World} {a1 : Option Addr} {n2 c3 : Nat} {cs4 : List Value} {s6 : List Step}  (hS : St w m (.row (.slice a1 n2 c3) 108 2 cs4 :: L)) (hr5 : RCs 2 RStep m cs4 s6) {fuel : Nat} {r : (List Step)} (hM : mg55 fuel s6 = some r) : Calls P0 55 [.slice a1 n2 c3].toArray w (Ret fun v w' => ∃ (cs0 : List Value), v = .tuple #[] ∧ n2 = r.length ∧ RCs 2 RStep m cs0 r ∧ St w' m (.row (.slice a1 n2 c3) 108 2 cs0 :: L)) := by
 rw [mg55] at hM
 obtain rfl := row_n (hS.toHeld.own .here) hr5 (by decide)
 refine enter Try.func55 rfl Try.ntmps55 (Nat.le_of_ble_eq_true rfl) ?_
 refine c_seq <| c_region <| wl_h hS.toHeld (r_move (v := .slice _ _ _) rfl) <| wl_h hS.toHeld (r_len Try.underlying68 (a := _) (n := _) (c := _) rfl) ?_
 obtain ⟨hc7, hM⟩ := chk_ok hM
 refine wl_h hS.toHeld (r_sub (a := _) (b := _) rfl rfl (ok_lo hc7) (ok_hi hc7)) <| wl_h hS.toHeld (r_assign (v := .int .i64 _) rfl) <| wl_h hS.toHeld (r_assign (v := .int .i64 _) rfl) <| wl_nil <| c_block <| c_loop (fun k f w => ∃ (i214 : Int) (j215 : Int) (l216 : List Step) (cs217 : List Value), mg55_l0 fuel  k i214 j215 l216 = some r ∧ s6.length = l216.length ∧ RCs 2 RStep m cs217 l216 ∧ St w m (.row (.slice a1 s6.length c3) 108 2 cs217 :: L) ∧ f 0 = .slice a1 s6.length c3 ∧ f 2 = .int .i64 i214 ∧ f 3 = .int .i64 j215) fuel ⟨0, ((s6.length : Nat) : Int) - 1, s6, cs4, hM, row_n (hS.toHeld.own .here) hr5 (by decide), hr5, hS, rfl, rfl, rfl⟩ ?_
 rintro k_0 f220 w221 ⟨i214, j215, l216, cs217, hM, hn218, hrc219, hS223, e224, e225, e226⟩
 refine c_know (t := 0) e224 <| c_know (t := 2) e225 <| c_know (t := 3) e226 ?_
 clear e224 e225 e226
 rcases k_0 with _ | k_0
 · exact none_ne hM
 rw [mg55_l0] at hM
 refine c_seq <| c_seq <| c_region <| wl_h hS223.toHeld (r_move (v := .int .i64 _) rfl) <| wl_h hS223.toHeld (r_move (v := .int .i64 _) rfl) ?_
 refine wl_h hS223.toHeld (r_lss (a := _) (b := _) rfl rfl) <| wl_nil <| c_cond (c := _) rfl (fun h227 => ?_) (fun h227 => ?_)
 ·replace hM := bif_t h227 hM
  refine c_skip <| c_seq <| c_block ?_
  obtain ⟨x230, hx231, h232, h233, hM⟩ := getK_ok hM
  obtain ⟨x238, hx239, h240, h241, hM⟩ := getK_ok hM
  obtain ⟨x247, hx248, h249, h250, hM⟩ := getK_ok hM
  obtain ⟨x259, hx260, h261, h262, hM⟩ := getK_ok hM
  have hH273 := (hS223.weaken (.cons _ (.refl _))).toHeld
  refine c_drawJ (k := 16) (fun f w => ∃ (cs271 : List Value), RCs 2 RStep m cs271 ((l216.set i214.toNat x230).set j215.toNat x238) ∧ St w m (.row (.slice a1 s6.length c3) 108 2 cs271 :: L) ∧ f 0 = .slice a1 s6.length c3 ∧ f 2 = .int .i64 i214 ∧ f 3 = .int .i64 j215) (fun w => Held w m (L)) mixed rfl ?_ ?_
  ·replace hH273 := hH273.drew1
   have hS274 := hS223.drew1
   refine d_v (i := 0) rfl (by kernel_rfl) rfl (r_move (v := .slice _ _ _) rfl) hH273 ?_
   refine d_v (i := 1) rfl (by kernel_rfl) rfl (r_move (v := .int .i64 _) rfl) hH273 ?_
   refine d_v (i := 2) rfl (by kernel_rfl) rfl (r_move (v := .slice _ _ _) rfl) hH273 ?_
   refine d_v (i := 3) rfl (by kernel_rfl) rfl (r_move (v := .int .i64 _) rfl) hH273 ?_
   refine d_v (i := 4) rfl (by kernel_rfl) rfl (r_move (v := .slice _ _ _) rfl) hH273 ?_
   refine d_v (i := 5) rfl (by kernel_rfl) rfl (r_move (v := .int .i64 _) rfl) hH273 ?_
   obtain ⟨b275, rfl⟩ := row_some (hS274.toHeld.own .here) hrc219 (by decide) h232 h233
   obtain ⟨es276, hes277, hR278⟩ := row_read hrc219 hx231
   obtain rfl := hR278
   refine d_v (i := 6) rfl (by kernel_rfl) rfl (r_indexAddr Try.underlying68 ty108 (b := _) (o := _) (n := _) (c := _) (i := j215) rfl rfl h232 (row_lt (hS274.toHeld.own .here) hrc219 (by decide) h233)) hH273 ?_
   refine d_v (i := 8) rfl (by kernel_rfl) rfl (r_move (v := .slice _ _ _) rfl) hH273 ?_
   refine d_v (i := 9) rfl (by kernel_rfl) rfl (r_move (v := .int .i64 _) rfl) hH273 ?_
   obtain ⟨es279, hes280, hR281⟩ := row_read hrc219 hx239
   obtain rfl := hR281
   refine d_v (i := 10) rfl (by kernel_rfl) rfl (r_indexAddr Try.underlying68 ty108 (b := _) (o := _) (n := _) (c := _) (i := i214) rfl rfl h240 (row_lt (hS274.toHeld.own .here) hrc219 (by decide) h241)) hH273 ?_
   refine d_all (rs := [7, 11]) (by kernel_rfl) (by simp) (fun j hj o ho => ?_)
   simp only [List.mem_cons, List.not_mem_nil, or_false] at hj
   rcases hj with rfl | rfl
   ·cases ho
    refine wl_h hS274.toHeld (r_row ty108 (k := 0) (i := j215.toNat) .here rfl rfl (row_room hrc219 hx231) hes277 rfl (v := .agg #[.int .i64 _, .bool _]) rfl) <| wl_nil ?_
    have hH282 := hS274.toHeld.mono (Mem.le_refl _) (List.Sublist.subset (.cons _ (.refl _)))
    refine ⟨hH282, ?_⟩
    refine d_all (rs := [11]) (by kernel_rfl) (by simp) (fun j hj o ho => ?_)
    obtain rfl : j = 11 := by simpa using hj
    cases ho
    refine wl_h hS274.toHeld (r_row ty108 (k := 0) (i := i214.toNat) .here rfl rfl (row_room hrc219 hx239) hes280 rfl (v := .agg #[.int .i64 _, .bool _]) rfl) <| wl_nil ?_
    have hH283 := hS274.toHeld.mono (Mem.le_refl _) (List.Sublist.subset (.cons _ (.refl _)))
    refine ⟨hH283, ?_⟩
    obtain ⟨es284, hes285, hR286⟩ := row_read hrc219 hx248
    obtain rfl := hR286
    refine d_v (i := 12) rfl (by kernel_rfl) rfl (r_indexAddr Try.underlying68 ty108 (b := _) (o := _) (n := _) (c := _) (i := i214) rfl rfl h249 (row_lt (hS274.toHeld.own .here) hrc219 (by decide) h250)) hH283 ?_
    refine d_all (rs := [13]) (by kernel_rfl) (by simp) (fun j hj o ho => ?_)
    obtain rfl : j = 13 := by simpa using hj
    cases ho
    refine wl_store_row ty108 hS274 rfl (v := .agg #[.int .i64 _, .bool _]) rfl (vs := [.int .i64 _, .bool _]) rfl rfl rfl .here (Nat.le_trans (by simp only [Nat.zero_add]; omega) (row_room hrc219 hx248)) ?_
    intro w287 hS288
    have hrc289 := RCs.seti hrc219 hx248 (vs := [.int .i64 x230.street, .bool x230.back]) (y := x230) rfl rfl
    generalize spl cs217 (0 + i214.toNat * 2) [.int .i64 x230.street, .bool x230.back] = cs290 at hS288 hrc289
    refine wl_nil ?_
    have hH291 := hS288.toHeld.mono (Mem.le_refl _) (List.Sublist.subset (.cons _ (.refl _)))
    refine ⟨hH291, ?_⟩
    obtain ⟨es292, hes293, hR294⟩ := row_read hrc289 hx260
    obtain rfl := hR294
    refine d_v (i := 14) rfl (by kernel_rfl) rfl (r_indexAddr Try.underlying68 ty108 (b := _) (o := _) (n := _) (c := _) (i := j215) rfl rfl h261 (row_lt (hS288.toHeld.own .here) hrc289 (by decide) h262)) hH291 ?_
    refine d_all (rs := [15]) (by kernel_rfl) (by simp) (fun j hj o ho => ?_)
    obtain rfl : j = 15 := by simpa using hj
    cases ho
    refine wl_store_row ty108 hS288 rfl (v := .agg #[.int .i64 _, .bool _]) rfl (vs := [.int .i64 _, .bool _]) rfl rfl rfl .here (Nat.le_trans (by simp only [Nat.zero_add]; omega) (row_room hrc289 hx260)) ?_
    intro w295 hS296
    have hrc297 := RCs.seti hrc289 hx260 (vs := [.int .i64 x238.street, .bool x238.back]) (y := x238) rfl rfl
    generalize spl cs290 (0 + j215.toNat * 2) [.int .i64 x238.street, .bool x238.back] = cs298 at hS296 hrc297
    refine wl_nil ?_
    have hH299 := hS296.toHeld.mono (Mem.le_refl _) (List.Sublist.subset (.cons _ (.refl _)))
    refine ⟨hH299, ?_⟩
    refine d_end (by kernel_rfl) ?_
    exact ⟨_, hrc297, hS296, rfl, rfl, rfl⟩
   ·cases ho
    refine wl_h hS274.toHeld (r_row ty108 (k := 0) (i := i214.toNat) .here rfl rfl (row_room hrc219 hx239) hes280 rfl (v := .agg #[.int .i64 _, .bool _]) rfl) <| wl_nil ?_
    have hH300 := hS274.toHeld.mono (Mem.le_refl _) (List.Sublist.subset (.cons _ (.refl _)))
    refine ⟨hH300, ?_⟩
    refine d_all (rs := [7]) (by kernel_rfl) (by simp) (fun j hj o ho => ?_)
    obtain rfl : j = 7 := by simpa using hj
    cases ho
    refine wl_h hS274.toHeld (r_row ty108 (k := 0) (i := j215.toNat) .here rfl rfl (row_room hrc219 hx231) hes277 rfl (v := .agg #[.int .i64 _, .bool _]) rfl) <| wl_nil ?_
    have hH301 := hS274.toHeld.mono (Mem.le_refl _) (List.Sublist.subset (.cons _ (.refl _)))
    refine ⟨hH301, ?_⟩
    obtain ⟨es302, hes303, hR304⟩ := row_read hrc219 hx248
    obtain rfl := hR304
    refine d_v (i := 12) rfl (by kernel_rfl) rfl (r_indexAddr Try.underlying68 ty108 (b := _) (o := _) (n := _) (c := _) (i := i214) rfl rfl h249 (row_lt (hS274.toHeld.own .here) hrc219 (by decide) h250)) hH301 ?_
    refine d_all (rs := [13]) (by kernel_rfl) (by simp) (fun j hj o ho => ?_)
    obtain rfl : j = 13 := by simpa using hj
    cases ho
    refine wl_store_row ty108 hS274 rfl (v := .agg #[.int .i64 _, .bool _]) rfl (vs := [.int .i64 _, .bool _]) rfl rfl rfl .here (Nat.le_trans (by simp only [Nat.zero_add]; omega) (row_room hrc219 hx248)) ?_
    intro w305 hS306
    have hrc307 := RCs.seti hrc219 hx248 (vs := [.int .i64 x230.street, .bool x230.back]) (y := x230) rfl rfl
    generalize spl cs217 (0 + i214.toNat * 2) [.int .i64 x230.street, .bool x230.back] = cs308 at hS306 hrc307
    refine wl_nil ?_
    have hH309 := hS306.toHeld.mono (Mem.le_refl _) (List.Sublist.subset (.cons _ (.refl _)))
    refine ⟨hH309, ?_⟩
    obtain ⟨es310, hes311, hR312⟩ := row_read hrc307 hx260
    obtain rfl := hR312
    refine d_v (i := 14) rfl (by kernel_rfl) rfl (r_indexAddr Try.underlying68 ty108 (b := _) (o := _) (n := _) (c := _) (i := j215) rfl rfl h261 (row_lt (hS306.toHeld.own .here) hrc307 (by decide) h262)) hH309 ?_
    refine d_all (rs := [15]) (by kernel_rfl) (by simp) (fun j hj o ho => ?_)
    obtain rfl : j = 15 := by simpa using hj
    cases ho
    refine wl_store_row ty108 hS306 rfl (v := .agg #[.int .i64 _, .bool _]) rfl (vs := [.int .i64 _, .bool _]) rfl rfl rfl .here (Nat.le_trans (by simp only [Nat.zero_add]; omega) (row_room hrc307 hx260)) ?_
    intro w313 hS314
    have hrc315 := RCs.seti hrc307 hx260 (vs := [.int .i64 x238.street, .bool x238.back]) (y := x238) rfl rfl
    generalize spl cs308 (0 + j215.toNat * 2) [.int .i64 x238.street, .bool x238.back] = cs316 at hS314 hrc315
    refine wl_nil ?_
    have hH317 := hS314.toHeld.mono (Mem.le_refl _) (List.Sublist.subset (.cons _ (.refl _)))
    refine ⟨hH317, ?_⟩
    refine d_end (by kernel_rfl) ?_
    exact ⟨_, hrc315, hS314, rfl, rfl, rfl⟩
  ·rintro f322 w323 ⟨cs271, hrc272, hS318, e319, e320, e321⟩
   refine c_know (t := 0) e319 <| c_know (t := 2) e320 <| c_know (t := 3) e321 ?_
   clear e319 e320 e321
   refine c_nil <| q_norm <| c_region <| wl_h hS318.toHeld (r_move (v := .int .i64 _) rfl) ?_
   obtain ⟨hc324, hM⟩ := chk_ok hM
   refine wl_h hS318.toHeld (r_add (a := _) (b := _) rfl rfl (ok_lo hc324) (ok_hi hc324)) <| wl_h hS318.toHeld (r_move (v := .int .i64 _) rfl) ?_
   obtain ⟨hc325, hM⟩ := chk_ok hM
   refine wl_h hS318.toHeld (r_sub (a := _) (b := _) rfl rfl (ok_lo hc325) (ok_hi hc325)) <| wl_h hS318.toHeld (r_assign (v := .int .i64 _) rfl) <| wl_h hS318.toHeld (r_assign (v := .int .i64 _) rfl) <| wl_nil <| c_nil <| q_loop ?_
   exact ⟨k_0, Nat.lt_succ_self _, i214 + 1, j215 - 1, ((l216.set i214.toNat x230).set j215.toNat x238), cs271, hM, row_n (hS318.toHeld.own .here) hrc272 (by decide), hrc272, hS318, rfl, rfl, rfl⟩
 ·replace hM := bif_f h227 hM
  refine c_exit <| q_loopx <| q_hit <| c_nil <| end_none rfl ?_
  obtain rfl := some_eq hM
  exact ⟨cs217, rfl, row_n (hS223.toHeld.own .here) hrc219 (by decide), hrc219, hS223⟩

theorem cg26 {m : Mem} {L : List Atom} {w : World} {cs1 : List Value} {r3 : Round} {from9 : Int} (hS : St w m L) (hx2 : RRound m cs1 r3) {fuel : Nat} {r : (List Step) × Int × Int} (hM : mg26 fuel r3 from9 = some r) : Calls P0 26 [.agg cs1.toArray, .int .i64 from9].toArray w (Ret fun v w' => ∃ (a0 : Option Addr) (n0 : Nat) (c0 : Nat) (cs0 : List Value), v = .tuple #[.slice a0 n0 c0, .int .i64 r.2.1, .int .i64 r.2.2] ∧ n0 = r.1.length ∧ RCs 2 RStep m cs0 r.1 ∧ St w' m (.row (.slice a0 n0 c0) 108 2 cs0 :: L)) := by
 rw [mg26] at hM
 have hk8 := hx2
 obtain ⟨a4, n5, c6, rfl, hr7⟩ := hx2
 obtain rfl := hr7.1
 refine enter Try.func26 rfl Try.ntmps26 (Nat.le_of_ble_eq_true rfl) ?_
 refine c_seq <| c_region <| wl_box hS (v := .agg #[.int .i64 _, .slice _ _ _]) rfl (cs := [.int .i64 _, .slice _ _ _]) rfl ?_
 intro b10 w11 hS12
 refine wl_h hS12.toHeld (r_assign (v := .slice _ _ _) rfl) <| wl_h hS12.toHeld (r_assign (v := .int .i64 _) rfl) <| wl_h hS12.toHeld (r_assign (v := .int .i64 _) rfl) <| wl_nil <| c_scope ?_
 refine c_seq <| c_seq <| c_region <| wl_h hS12.toHeld (r_box ty73 (k := 0) .here rfl rfl rfl (v := .agg #[.int .i64 _, .slice _ _ _]) rfl) ?_
 obtain ⟨r13, hq14, hM⟩ := bnd_ok hM
 refine wl_call ent52 (vals := [.agg #[.int .i64 _, .slice _ _ _]]) rfl (cg52 hS12 hk8 hq14) ?_
 rintro _ w16 ⟨rfl, hS17⟩
 refine wl_h hS17.toHeld (r_assign (v := .int .i64 _) rfl) <| wl_nil <| c_seq <| c_region <| wl_h hS17.toHeld (r_move (v := .int .i64 _) rfl) ?_
 refine wl_h hS17.toHeld (r_neq (a := _) (b := _) rfl rfl) <| wl_nil <| c_cond (c := _) rfl (fun h18 => ?_) (fun h18 => ?_)
 ·replace hM := bif_t h18 hM
  refine c_seq <| c_region <| wl_h hS17.toHeld (r_move (v := .int .i64 _) rfl) <| wl_h hS17.toHeld (r_assign (v := .slice _ _ _) rfl) <| wl_h hS17.toHeld (r_assign (v := .int .i64 _) rfl) ?_
  refine wl_h hS17.toHeld (r_assign (v := .int .i64 _) rfl) <| wl_nil <| c_ret <| q_scoper <| ret_many rfl (.tmp (v := .slice _ _ _) rfl (.tmp (v := .int .i64 _) rfl (.tmp (v := .int .i64 _) rfl .nil))) ?_
  have hS19 := hS17.nilRow 108 2
  have hrc21 : RCs 2 RStep m [] ([] : List Step) := RCs.nil
  obtain rfl := some_eq hM
  have hS22 := hS19.weaken (.cons_cons _ (.cons _ (.refl _)))
  exact ⟨none, 0, 0, [], rfl, row_n (hS22.toHeld.own .here) hrc21 (by decide), hrc21, hS22⟩
 ·replace hM := bif_f h18 hM
  refine c_skip <| c_seq <| c_seq <| c_region <| wl_h hS17.toHeld (r_box ty73 (k := 0) .here rfl rfl rfl (v := .agg #[.int .i64 _, .slice _ _ _]) rfl) ?_
  refine wl_h hS17.toHeld (r_move (v := .int .i64 _) rfl) ?_
  obtain ⟨r23, hq24, hM⟩ := bnd_ok hM
  refine wl_call ent53 (vals := [.agg #[.int .i64 _, .slice _ _ _], .int .i64 _]) rfl (cg53 hS17 hk8 hq24) ?_
  rintro _ w26 ⟨rfl, hS27⟩
  refine wl_h hS27.toHeld (r_not (b := _) rfl) <| wl_nil <| c_cond (c := _) rfl (fun h28 => ?_) (fun h28 => ?_)
  ·replace hM := bif_t h28 hM
   refine c_seq <| c_region <| wl_h hS27.toHeld (r_assign (v := .slice _ _ _) rfl) <| wl_h hS27.toHeld (r_assign (v := .int .i64 _) rfl) <| wl_h hS27.toHeld (r_assign (v := .int .i64 _) rfl) ?_
   refine wl_nil <| c_ret <| q_scoper <| ret_many rfl (.tmp (v := .slice _ _ _) rfl (.tmp (v := .int .i64 _) rfl (.tmp (v := .int .i64 _) rfl .nil))) ?_
   have hS29 := hS27.nilRow 108 2
   have hrc31 : RCs 2 RStep m [] ([] : List Step) := RCs.nil
   obtain rfl := some_eq hM
   have hS32 := hS29.weaken (.cons_cons _ (.cons _ (.refl _)))
   exact ⟨none, 0, 0, [], rfl, row_n (hS32.toHeld.own .here) hrc31 (by decide), hrc31, hS32⟩
  ·replace hM := bif_f h28 hM
   refine c_skip <| c_seq <| c_region <| wl_h hS27.toHeld (r_box ty73 (k := 0) .here rfl rfl rfl (v := .agg #[.int .i64 _, .slice _ _ _]) rfl) ?_
   obtain ⟨r33, hq34, hM⟩ := bnd_ok hM
   refine wl_call ent54 (vals := [.agg #[.int .i64 _, .slice _ _ _]]) rfl (cg54 hS27 hk8 hq34) ?_
   rintro _ w42 ⟨a36, n37, c38, cs39, rfl, rfl, hrc40, hS43⟩
   refine wl_h hS43.toHeld (r_move (v := .tuple #[.slice _ _ _, .int .i64 _]) rfl) <| wl_h hS43.toHeld (r_extract (vs := [.slice _ _ _, .int .i64 _]) rfl (v := .slice _ _ _) rfl) <| wl_h hS43.toHeld (r_extract (vs := [.slice _ _ _, .int .i64 _]) rfl (v := .int .i64 _) rfl) <| wl_h hS43.toHeld (r_assign (v := .slice _ _ _) rfl) <| wl_h hS43.toHeld (r_assign (v := .int .i64 _) rfl) ?_
   refine wl_nil <| c_seq <| c_seq <| c_region <| wl_h hS43.toHeld (r_fieldAddr fld73_1 (b := _) (o := _) rfl) ?_
   refine wl_h hS43.toHeld (r_box ty71 (k := 1) (.there .here) rfl rfl rfl (v := .slice _ _ _) rfl) <| wl_h hS43.toHeld (r_len Try.underlying71 (a := _) (n := _) (c := _) rfl) <| wl_h hS43.toHeld (r_move (v := .int .i64 _) rfl) <| wl_nil <| c_block <| c_loop (fun k f w => ∃ (length5417 : Int) (x5418 : Int) (l5419 : List Int) (a5420 : Option Addr) (n5421 : Nat) (c5422 : Nat) (cs5423 : List Value), mg26_l0 fuel r3 from9 k length5417 x5418 l5419 = some r ∧ n5421 = l5419.length ∧ RCs 1 RInt m cs5423 l5419 ∧ St w m (.row (.slice a5420 n5421 c5422) 3 1 cs5423 :: .box b10 73 [.int .i64 r3.corners, .slice a4 r3.streets.length c6] :: L) ∧ f 1 = .int .i64 from9 ∧ f 2 = .pointer (some ⟨b10, 0, none⟩) ∧ f 8 = .slice a5420 n5421 c5422 ∧ f 9 = .int .i64 length5417 ∧ f 34 = .slice a4 r3.streets.length c6 ∧ f 35 = .int .i64 ((r3.streets.length : Nat) : Int) ∧ f 36 = .int .i64 x5418) fuel ⟨r33.2, 0, r33.1, a36, r33.1.length, c38, cs39, hM, row_n (hS43.toHeld.own .here) hrc40 (by decide), hrc40, hS43, rfl, rfl, rfl, rfl, rfl, rfl, rfl⟩ ?_
   rintro k_0 f5426 w5427 ⟨length5417, x5418, l5419, a5420, n5421, c5422, cs5423, hM, hn5424, hrc5425, hS5429, e5430, e5431, e5432, e5433, e5434, e5435, e5436⟩
   subst hn5424
   refine c_know (t := 1) e5430 <| c_know (t := 2) e5431 <| c_know (t := 8) e5432 <| c_know (t := 9) e5433 <| c_know (t := 34) e5434 ?_
   refine c_know (t := 35) e5435 <| c_know (t := 36) e5436 ?_
   clear e5430 e5431 e5432 e5433 e5434 e5435 e5436
   rcases k_0 with _ | k_0
   · exact none_ne hM
   rw [mg26_l0] at hM
   refine c_seq <| c_region <| wl_h hS5429.toHeld (r_lss (a := _) (b := _) rfl rfl) <| wl_nil <| c_seq <| c_cond (c := _) rfl (fun h5437 => ?_) (fun h5437 => ?_)
   ·replace hM := bif_t h5437 hM
    refine c_skip <| c_seq <| c_block <| c_seq <| c_region <| wl_h hS5429.toHeld (r_move (v := .int .i64 _) rfl) ?_
    obtain ⟨x5438, hx5439, h5440, h5441, hM⟩ := getK_ok hM
    obtain ⟨b5442, o5443, rfl⟩ := RSl.elem_a hr7 hx5439
    obtain ⟨cs5444, hI5445, hR5446⟩ := RSl.elem_at hr7 hx5439
    obtain rfl := hR5446
    refine wl_h hS5429.toHeld (r_indexAddr Try.underlying71 ty106 (b := _) (o := _) (n := _) (c := _) (i := x5418) rfl rfl h5440 (RSl.lt hr7 h5441)) <| wl_h hS5429.toHeld (r_imm ty106 (k := 0) hI5445 rfl rfl rfl (v := .agg #[.int .i64 _, .int .i64 _, .int .i64 _]) rfl) <| wl_alloc ty106 rfl hS5429 ?_
    intro b5447 w5448 hS5449
    refine wl_h hS5449.toHeld (r_assign (v := .int .i64 _) rfl) <| wl_store_box ty106 hS5449 rfl (v := .agg #[.int .i64 _, .int .i64 _, .int .i64 _]) rfl (vs := [.int .i64 _, .int .i64 _, .int .i64 _]) rfl rfl rfl .here (cs' := [.int .i64 _, .int .i64 _, .int .i64 _]) rfl rfl ?_
    intro w5450 hS5451
    refine wl_nil <| c_seq <| c_region <| wl_h hS5451.toHeld (r_move (v := .slice _ _ _) rfl) <| wl_h hS5451.toHeld (r_move (v := .int .i64 _) rfl) ?_
    obtain ⟨x5452, hx5453, h5454, h5455, hM⟩ := getK_ok hM
    obtain ⟨b5456, rfl⟩ := row_some (hS5451.toHeld.own (.there .here)) hrc5425 (by decide) h5454 h5455
    obtain ⟨es5457, hes5458, hR5459⟩ := row_read hrc5425 hx5453
    obtain rfl := hR5459
    refine wl_h hS5451.toHeld (r_indexAddr Try.underlying35 ty3 (b := _) (o := _) (n := _) (c := _) (i := x5418) rfl rfl h5454 (row_lt (hS5451.toHeld.own (.there .here)) hrc5425 (by decide) h5455)) <| wl_h hS5451.toHeld (r_row ty3 (k := 0) (i := x5418.toNat) (.there .here) rfl rfl (row_room hrc5425 hx5453) hes5458 rfl (v := .int .i64 _) rfl) ?_
    obtain ⟨hc5460, hM⟩ := chk_ok hM
    refine wl_h hS5451.toHeld (r_add (a := _) (b := _) rfl rfl (ok_lo hc5460) (ok_hi hc5460)) ?_
    obtain ⟨x5461, hx5462, h5463, h5464, hM⟩ := getK_ok hM
    obtain ⟨es5465, hes5466, hR5467⟩ := row_read hrc5425 hx5462
    obtain rfl := hR5467
    refine wl_h hS5451.toHeld (r_indexAddr Try.underlying35 ty3 (b := _) (o := _) (n := _) (c := _) (i := x5418) rfl rfl h5463 (row_lt (hS5451.toHeld.own (.there .here)) hrc5425 (by decide) h5464)) <| wl_store_row ty3 hS5451 rfl (v := .int .i64 _) rfl (vs := [.int .i64 _]) rfl rfl rfl (.there .here) (Nat.le_trans (by simp only [Nat.zero_add]; omega) (row_room hrc5425 hx5462)) ?_
    intro w5468 hS5469
    have hrc5470 := RCs.seti hrc5425 hx5462 (vs := [.int .i64 (x5452 + 1)]) (y := x5452 + 1) rfl rfl
    generalize spl cs5423 (0 + x5418.toNat * 1) [.int .i64 (x5452 + 1)] = cs5471 at hS5469 hrc5470
    refine wl_nil <| c_region <| wl_h hS5469.toHeld (r_move (v := .int .i64 _) rfl) <| wl_h hS5469.toHeld (r_fieldAddr fld106_2 (b := _) (o := _) rfl) <| wl_h hS5469.toHeld (r_box ty3 (k := 2) .here rfl rfl rfl (v := .int .i64 _) rfl) ?_
    obtain ⟨hc5472, hM⟩ := chk_ok hM
    refine wl_h hS5469.toHeld (r_add (a := _) (b := _) rfl rfl (ok_lo hc5472) (ok_hi hc5472)) <| wl_h hS5469.toHeld (r_assign (v := .int .i64 _) rfl) <| wl_nil <| c_nil <| q_norm <| c_region ?_
    obtain ⟨hc5473, hM⟩ := chk_ok hM
    refine wl_h hS5469.toHeld (r_add (a := _) (b := _) rfl rfl (ok_lo hc5473) (ok_hi hc5473)) <| wl_h hS5469.toHeld (r_move (v := .int .i64 _) rfl) <| wl_nil <| c_nil <| q_loop ?_
    have hS5474 := hS5469.weaken (.cons _ (.cons_cons _ (.cons_cons _ (.refl _))))
    exact ⟨k_0, Nat.lt_succ_self _, length5417 + x5438.length, x5418 + 1, (l5419.set x5418.toNat (x5452 + 1)), (some ⟨b5456, 0, none⟩), l5419.length, c5422, cs5471, hM, row_n (hS5474.toHeld.own .here) hrc5470 (by decide), hrc5470, hS5474, rfl, rfl, rfl, rfl, rfl, rfl, rfl⟩
   ·replace hM := bif_f h5437 hM
    refine c_exit <| q_loopx <| q_hit <| c_seq <| c_region <| wl_h hS5429.toHeld (r_move (v := .int .i64 _) rfl) ?_
    refine wl_buildSlice Try.underlying35 ty3 rfl (by decide) (by decide) hS5429 (ps := [(0, [.int .i64 _])]) rfl rfl (cs := [.int .i64 _]) rfl rfl (by decide) ?_
    intro b5476 w5477 hS5478
    have hrc5479 : RCs 1 RInt m [.int .i64 from9] ([from9] : List Int) := (RCs.cons (d := [.int .i64 from9]) rfl rfl RCs.nil)
    refine wl_h hS5478.toHeld (r_assign (v := .slice _ _ _) rfl) <| wl_nil <| c_seq <| c_region <| wl_h hS5478.toHeld (r_build ty110 st110 (ps := []) rfl rfl (cs := [.int .i64 _, .bool _, .bool _]) rfl) ?_
    refine wl_buildSlice Try.underlying111 ty110 rfl (by decide) (by decide) hS5478 (ps := [(0, [.int .i64 _, .bool _, .bool _])]) rfl rfl (cs := [.int .i64 _, .bool _, .bool _]) rfl rfl (by decide) ?_
    intro b5481 w5482 hS5483
    have hrc5484 : RCs 3 RCome m [.int .i64 0, .bool false, .bool false] ([(⟨(⟨0, false⟩ : Step), false⟩ : Come)] : List Come) := (RCs.cons (d := [.int .i64 0, .bool false, .bool false]) rfl rfl RCs.nil)
    refine wl_h hS5483.toHeld (r_assign (v := .slice _ _ _) rfl) <| wl_nil <| c_seq <| c_region <| wl_h hS5483.toHeld (r_assign (v := .slice _ _ _) rfl) ?_
    refine wl_nil <| c_seq <| c_label <| c_seq <| c_block ?_
    have hS7428 := hS5483.nilRow 108 2
    have hrc7429 : RCs 2 RStep m [] ([] : List Step) := RCs.nil
    refine c_loop (fun k f w => ∃ (l7430 : List Step) (l7437 : List Come) (l7444 : List Int) (l7451 : List Int) (a7431 : Option Addr) (n7432 : Nat) (c7433 : Nat) (cs7434 : List Value) (a7438 : Option Addr) (n7439 : Nat) (c7440 : Nat) (cs7441 : List Value) (a7445 : Option Addr) (n7446 : Nat) (c7447 : Nat) (cs7448 : List Value) (a7452 : Option Addr) (n7453 : Nat) (c7454 : Nat) (cs7455 : List Value), mg26_l1 fuel r3 length5417 k l7430 l7437 l7444 l7451 = some r ∧ n7432 = l7430.length ∧ RCs 2 RStep m cs7434 l7430 ∧ n7439 = l7437.length ∧ RCs 3 RCome m cs7441 l7437 ∧ n7446 = l7444.length ∧ RCs 1 RInt m cs7448 l7444 ∧ n7453 = l7451.length ∧ RCs 1 RInt m cs7455 l7451 ∧ St w m (.row (.slice a7431 n7432 c7433) 108 2 cs7434 :: .row (.slice a7438 n7439 c7440) 110 3 cs7441 :: .row (.slice a7445 n7446 c7447) 3 1 cs7448 :: .row (.slice a7452 n7453 c7454) 3 1 cs7455 :: .box b10 73 [.int .i64 r3.corners, .slice a4 r3.streets.length c6] :: L) ∧ f 2 = .pointer (some ⟨b10, 0, none⟩) ∧ f 8 = .slice a7452 n7453 c7454 ∧ f 9 = .int .i64 length5417 ∧ f 12 = .slice a7445 n7446 c7447 ∧ f 13 = .slice a7438 n7439 c7440 ∧ f 14 = .slice a7431 n7432 c7433) fuel ⟨([] : List Step), [(⟨(⟨0, false⟩ : Step), false⟩ : Come)], [from9], l5419, none, 0, 0, [], (some ⟨b5481, 0, none⟩), 1, 1, [.int .i64 0, .bool false, .bool false], (some ⟨b5476, 0, none⟩), 1, 1, [.int .i64 from9], a5420, l5419.length, c5422, cs5423, hM, row_n (hS7428.toHeld.own .here) hrc7429 (by decide), hrc7429, row_n (hS7428.toHeld.own (.there .here)) hrc5484 (by decide), hrc5484, row_n (hS7428.toHeld.own (.there (.there .here))) hrc5479 (by decide), hrc5479, row_n (hS7428.toHeld.own (.there (.there (.there .here)))) hrc5425 (by decide), hrc5425, hS7428, rfl, rfl, rfl, rfl, rfl, rfl⟩ ?_
    rintro k_1 f7458 w7459 ⟨l7430, l7437, l7444, l7451, a7431, n7432, c7433, cs7434, a7438, n7439, c7440, cs7441, a7445, n7446, c7447, cs7448, a7452, n7453, c7454, cs7455, hM, hn7435, hrc7436, hn7442, hrc7443, hn7449, hrc7450, hn7456, hrc7457, hS7461, e7462, e7463, e7464, e7465, e7466, e7467⟩
    subst hn7435
    subst hn7442
    subst hn7449
    subst hn7456
    refine c_know (t := 2) e7462 <| c_know (t := 8) e7463 <| c_know (t := 9) e7464 <| c_know (t := 12) e7465 <| c_know (t := 13) e7466 ?_
    refine c_know (t := 14) e7467 ?_
    clear e7462 e7463 e7464 e7465 e7466 e7467
    rcases k_1 with _ | k_1
    · exact none_ne hM
    rw [mg26_l1] at hM
    refine c_seq <| c_seq <| c_region <| wl_h hS7461.toHeld (r_move (v := .slice _ _ _) rfl) <| wl_h hS7461.toHeld (r_len Try.underlying35 (a := _) (n := _) (c := _) rfl) ?_
    refine wl_h hS7461.toHeld (r_gtr (a := _) (b := _) rfl rfl) <| wl_nil <| c_cond (c := _) rfl (fun h7468 => ?_) (fun h7468 => ?_)
    ·replace hM := bif_t h7468 hM
     refine c_skip <| c_block <| c_seq <| c_region <| wl_h hS7461.toHeld (r_move (v := .slice _ _ _) rfl) ?_
     refine wl_h hS7461.toHeld (r_move (v := .slice _ _ _) rfl) <| wl_h hS7461.toHeld (r_len Try.underlying35 (a := _) (n := _) (c := _) rfl) ?_
     obtain ⟨hc7469, hM⟩ := chk_ok hM
     refine wl_h hS7461.toHeld (r_sub (a := _) (b := _) rfl rfl (ok_lo hc7469) (ok_hi hc7469)) ?_
     obtain ⟨x7470, hx7471, h7472, h7473, hM⟩ := getK_ok hM
     obtain ⟨b7474, rfl⟩ := row_some (hS7461.toHeld.own (.there (.there .here))) hrc7450 (by decide) h7472 h7473
     obtain ⟨es7475, hes7476, hR7477⟩ := row_read hrc7450 hx7471
     obtain rfl := hR7477
     refine wl_h hS7461.toHeld (r_indexAddr Try.underlying35 ty3 (b := _) (o := _) (n := _) (c := _) (i := ((l7444.length : Nat) : Int) - 1) rfl rfl h7472 (row_lt (hS7461.toHeld.own (.there (.there .here))) hrc7450 (by decide) h7473)) <| wl_h hS7461.toHeld (r_row ty3 (k := 0) (i := (((l7444.length : Nat) : Int) - 1).toNat) (.there (.there .here)) rfl rfl (row_room hrc7450 hx7471) hes7476 rfl (v := .int .i64 _) rfl) <| wl_h hS7461.toHeld (r_assign (v := .int .i64 _) rfl) <| wl_nil <| c_seq <| c_seq <| c_region <| wl_h hS7461.toHeld (r_fieldAddr fld73_1 (b := _) (o := _) rfl) ?_
     refine wl_h hS7461.toHeld (r_box ty71 (k := 1) (.there (.there (.there (.there .here)))) rfl rfl rfl (v := .slice _ _ _) rfl) <| wl_h hS7461.toHeld (r_len Try.underlying71 (a := _) (n := _) (c := _) rfl) <| wl_h hS7461.toHeld (r_move (v := .int .i64 _) rfl) <| wl_nil <| c_block <| c_loop (fun k f w => ∃ (x7786 : Int), mg26_l2 fuel r3 l7430 l7437 l7444 l7451 x7470 (mg26_l1 fuel r3 length5417 k_1) k x7786 = some r ∧ St w m (.row (.slice a7431 l7430.length c7433) 108 2 cs7434 :: .row (.slice a7438 l7437.length c7440) 110 3 cs7441 :: .row (.slice (some ⟨b7474, 0, none⟩) l7444.length c7447) 3 1 cs7448 :: .row (.slice a7452 l7451.length c7454) 3 1 cs7455 :: .box b10 73 [.int .i64 r3.corners, .slice a4 r3.streets.length c6] :: L) ∧ f 2 = .pointer (some ⟨b10, 0, none⟩) ∧ f 8 = .slice a7452 l7451.length c7454 ∧ f 9 = .int .i64 length5417 ∧ f 12 = .slice (some ⟨b7474, 0, none⟩) l7444.length c7447 ∧ f 13 = .slice a7438 l7437.length c7440 ∧ f 14 = .slice a7431 l7430.length c7433 ∧ f 15 = .int .i64 x7470 ∧ f 66 = .slice a4 r3.streets.length c6 ∧ f 67 = .int .i64 ((r3.streets.length : Nat) : Int) ∧ f 68 = .int .i64 x7786) fuel ⟨0, hM, hS7461, rfl, rfl, rfl, rfl, rfl, rfl, rfl, rfl, rfl, rfl⟩ ?_
     rintro k_2 f7787 w7788 ⟨x7786, hM, hS7790, e7791, e7792, e7793, e7794, e7795, e7796, e7797, e7798, e7799, e7800⟩
     refine c_know (t := 2) e7791 <| c_know (t := 8) e7792 <| c_know (t := 9) e7793 <| c_know (t := 12) e7794 <| c_know (t := 13) e7795 ?_
     refine c_know (t := 14) e7796 <| c_know (t := 15) e7797 <| c_know (t := 66) e7798 <| c_know (t := 67) e7799 <| c_know (t := 68) e7800 ?_
     clear e7791 e7792 e7793 e7794 e7795 e7796 e7797 e7798 e7799 e7800
     rcases k_2 with _ | k_2
     · exact none_ne hM
     rw [mg26_l2] at hM
     refine c_seq <| c_region <| wl_h hS7790.toHeld (r_lss (a := _) (b := _) rfl rfl) <| wl_nil <| c_seq <| c_cond (c := _) rfl (fun h7801 => ?_) (fun h7801 => ?_)
     ·replace hM := bif_t h7801 hM
      refine c_skip <| c_seq <| c_block <| c_seq <| c_region <| wl_h hS7790.toHeld (r_move (v := .int .i64 _) rfl) ?_
      obtain ⟨x7802, hx7803, h7804, h7805, hM⟩ := getK_ok hM
      obtain ⟨b7806, o7807, rfl⟩ := RSl.elem_a hr7 hx7803
      obtain ⟨cs7808, hI7809, hR7810⟩ := RSl.elem_at hr7 hx7803
      obtain rfl := hR7810
      refine wl_h hS7790.toHeld (r_indexAddr Try.underlying71 ty106 (b := _) (o := _) (n := _) (c := _) (i := x7786) rfl rfl h7804 (RSl.lt hr7 h7805)) <| wl_h hS7790.toHeld (r_imm ty106 (k := 0) hI7809 rfl rfl rfl (v := .agg #[.int .i64 _, .int .i64 _, .int .i64 _]) rfl) <| wl_alloc ty106 rfl hS7790 ?_
      intro b7811 w7812 hS7813
      refine wl_h hS7813.toHeld (r_assign (v := .int .i64 _) rfl) <| wl_store_box ty106 hS7813 rfl (v := .agg #[.int .i64 _, .int .i64 _, .int .i64 _]) rfl (vs := [.int .i64 _, .int .i64 _, .int .i64 _]) rfl rfl rfl .here (cs' := [.int .i64 _, .int .i64 _, .int .i64 _]) rfl rfl ?_
      intro w7814 hS7815
      refine wl_nil <| c_seq <| c_region <| wl_h hS7815.toHeld (r_move (v := .slice _ _ _) rfl) <| wl_h hS7815.toHeld (r_move (v := .int .i64 _) rfl) ?_
      obtain ⟨x7816, hx7817, h7818, h7819, hM⟩ := getK_ok hM
      obtain ⟨b7820, rfl⟩ := row_some (hS7815.toHeld.own (.there (.there (.there (.there .here))))) hrc7457 (by decide) h7818 h7819
      obtain ⟨es7821, hes7822, hR7823⟩ := row_read hrc7457 hx7817
      obtain rfl := hR7823
      refine wl_h hS7815.toHeld (r_indexAddr Try.underlying35 ty3 (b := _) (o := _) (n := _) (c := _) (i := x7786) rfl rfl h7818 (row_lt (hS7815.toHeld.own (.there (.there (.there (.there .here))))) hrc7457 (by decide) h7819)) <| wl_h hS7815.toHeld (r_row ty3 (k := 0) (i := x7786.toNat) (.there (.there (.there (.there .here)))) rfl rfl (row_room hrc7457 hx7817) hes7822 rfl (v := .int .i64 _) rfl) <| wl_h hS7815.toHeld (r_gtr (a := _) (b := _) rfl rfl) <| wl_h hS7815.toHeld (r_move (v := .bool _) rfl) <| wl_split rfl (c := _) (t := 78) (fun h7824 => ?_) (fun h7824 => ?_)
      ·replace hM := bif_t h7824 hM
       refine wl_on (t := 78) rfl rfl ?_
       refine wl_h hS7815.toHeld (r_fieldAddr fld106_0 (b := _) (o := _) rfl) <| wl_on (t := 78) rfl rfl ?_
       refine wl_h hS7815.toHeld (r_box ty3 (k := 0) .here rfl rfl rfl (v := .int .i64 _) rfl) <| wl_on (t := 78) rfl rfl ?_
       refine wl_h hS7815.toHeld (r_move (v := .int .i64 _) rfl) <| wl_on (t := 78) rfl rfl ?_
       refine wl_h hS7815.toHeld (r_eql (a := _) (b := _) rfl rfl) <| wl_on (t := 78) rfl rfl ?_
       refine wl_h hS7815.toHeld (r_move (v := .bool _) rfl) <| wl_split rfl (c := _) (t := 83) (fun h7825 => ?_) (fun h7825 => ?_)
       ·replace hM := bif_t h7825 hM
        refine wl_off (t := 83) (b := true) rfl rfl rfl ?_
        refine wl_off (t := 83) (b := true) rfl rfl rfl ?_
        refine wl_off (t := 83) (b := true) rfl rfl rfl ?_
        refine wl_off (t := 83) (b := true) rfl rfl rfl ?_
        refine wl_on (t := 78) rfl rfl ?_
        refine wl_h hS7815.toHeld (r_pick_t rfl (v := .bool _) rfl) <| wl_h hS7815.toHeld (r_pick_t rfl (v := .bool _) rfl) <| wl_nil <| c_true rfl <| c_seq <| c_region <| wl_h hS7815.toHeld (r_move (v := .slice _ _ _) rfl) ?_
        refine wl_h hS7815.toHeld (r_move (v := .int .i64 _) rfl) ?_
        obtain ⟨x7826, hx7827, h7828, h7829, hM⟩ := getK_ok hM
        obtain ⟨es7830, hes7831, hR7832⟩ := row_read hrc7457 hx7827
        obtain rfl := hR7832
        refine wl_h hS7815.toHeld (r_indexAddr Try.underlying35 ty3 (b := _) (o := _) (n := _) (c := _) (i := x7786) rfl rfl h7828 (row_lt (hS7815.toHeld.own (.there (.there (.there (.there .here))))) hrc7457 (by decide) h7829)) <| wl_h hS7815.toHeld (r_row ty3 (k := 0) (i := x7786.toNat) (.there (.there (.there (.there .here)))) rfl rfl (row_room hrc7457 hx7827) hes7831 rfl (v := .int .i64 _) rfl) ?_
        obtain ⟨hc7833, hM⟩ := chk_ok hM
        refine wl_h hS7815.toHeld (r_sub (a := _) (b := _) rfl rfl (ok_lo hc7833) (ok_hi hc7833)) ?_
        obtain ⟨x7834, hx7835, h7836, h7837, hM⟩ := getK_ok hM
        obtain ⟨es7838, hes7839, hR7840⟩ := row_read hrc7457 hx7835
        obtain rfl := hR7840
        refine wl_h hS7815.toHeld (r_indexAddr Try.underlying35 ty3 (b := _) (o := _) (n := _) (c := _) (i := x7786) rfl rfl h7836 (row_lt (hS7815.toHeld.own (.there (.there (.there (.there .here))))) hrc7457 (by decide) h7837)) <| wl_store_row ty3 hS7815 rfl (v := .int .i64 _) rfl (vs := [.int .i64 _]) rfl rfl rfl (.there (.there (.there (.there .here)))) (Nat.le_trans (by simp only [Nat.zero_add]; omega) (row_room hrc7457 hx7835)) ?_
        intro w7841 hS7842
        have hrc7843 := RCs.seti hrc7457 hx7835 (vs := [.int .i64 (x7826 - 1)]) (y := x7826 - 1) rfl rfl
        generalize spl cs7455 (0 + x7786.toNat * 1) [.int .i64 (x7826 - 1)] = cs7844 at hS7842 hrc7843
        refine wl_nil <| c_seq <| c_region <| wl_h hS7842.toHeld (r_move (v := .slice _ _ _) rfl) <| wl_h hS7842.toHeld (r_fieldAddr fld106_0 (b := _) (o := _) rfl) ?_
        refine wl_h hS7842.toHeld (r_box ty3 (k := 0) .here rfl rfl rfl (v := .int .i64 _) rfl) <| wl_h hS7842.toHeld (r_fieldAddr fld106_1 (b := _) (o := _) rfl) <| wl_h hS7842.toHeld (r_box ty3 (k := 1) .here rfl rfl rfl (v := .int .i64 _) rfl) ?_
        obtain ⟨hc7845, hM⟩ := chk_ok hM
        refine wl_h hS7842.toHeld (r_add (a := _) (b := _) rfl rfl (ok_lo hc7845) (ok_hi hc7845)) <| wl_h hS7842.toHeld (r_move (v := .int .i64 _) rfl) ?_
        obtain ⟨hc7846, hM⟩ := chk_ok hM
        refine wl_h hS7842.toHeld (r_sub (a := _) (b := _) rfl rfl (ok_lo hc7846) (ok_hi hc7846)) <| wl_buildSlice Try.underlying35 ty3 rfl (by decide) (by decide) hS7842 (ps := [(0, [.int .i64 _])]) rfl rfl (cs := [.int .i64 _]) rfl rfl (by decide) ?_
        intro b7848 w7849 hS7850
        have hrc7851 : RCs 1 RInt m [.int .i64 ((x7802.a + x7802.b) - x7470)] ([(x7802.a + x7802.b) - x7470] : List Int) := (RCs.cons (d := [.int .i64 ((x7802.a + x7802.b) - x7470)]) rfl rfl RCs.nil)
        obtain ⟨hc7852, hM⟩ := chk_ok hM
        refine wl_append_src Try.underlying35 ty3 rfl (by decide) hS7850 (a := _) (nn := _) (c := _) rfl (a2 := _) (k2 := _) (c2 := _) rfl (.there (.there (.there (.there .here)))) (row_src (hS7850.toHeld.own .here) (RCs.allOne RInt.one (by decide) hrc7851)) (lim_b hc7852 rfl) (lim_a hc7852) ?_
        intro a7853 c7854 w7855 hS7856
        have hrc7858 := RCs.append hrc7450 hrc7851
        generalize cs7448 ++ [.int .i64 ((x7802.a + x7802.b) - x7470)] = cs7859 at hS7856 hrc7858
        have hS7860 := hS7856.weaken (.cons_cons _ (.cons _ (.cons_cons _ (.cons_cons _ (.cons_cons _ (.cons_cons _ (.cons_cons _ (.refl _))))))))
        refine wl_h hS7860.toHeld (r_assign (v := .slice _ _ _) rfl) <| wl_nil <| c_seq <| c_region <| wl_h hS7860.toHeld (r_move (v := .slice _ _ _) rfl) ?_
        refine wl_h hS7860.toHeld (r_move (v := .int .i64 _) rfl) <| wl_h hS7860.toHeld (r_fieldAddr fld106_1 (b := _) (o := _) rfl) <| wl_h hS7860.toHeld (r_box ty3 (k := 1) (.there .here) rfl rfl rfl (v := .int .i64 _) rfl) <| wl_h hS7860.toHeld (r_move (v := .int .i64 _) rfl) <| wl_h hS7860.toHeld (r_eql (a := _) (b := _) rfl rfl) ?_
        refine wl_h hS7860.toHeld (r_build ty108 st108 (ps := [(0, [.int .i64 _]), (1, [.bool _])]) rfl rfl (cs := [.int .i64 _, .bool _]) rfl) <| wl_h hS7860.toHeld (r_build ty110 st110 (ps := [(0, [.int .i64 _, .bool _]), (1, [.bool _])]) rfl rfl (cs := [.int .i64 _, .bool _, .bool _]) rfl) <| wl_buildSlice Try.underlying111 ty110 rfl (by decide) (by decide) hS7860 (ps := [(0, [.int .i64 _, .bool _, .bool _])]) rfl rfl (cs := [.int .i64 _, .bool _, .bool _]) rfl rfl (by decide) ?_
        intro b7862 w7863 hS7864
        have hrc7865 : RCs 3 RCome m [.int .i64 x7786, .bool (decide (x7802.b = x7470)), .bool true] ([(⟨(⟨x7786, decide (x7802.b = x7470)⟩ : Step), true⟩ : Come)] : List Come) := (RCs.cons (d := [.int .i64 x7786, .bool (decide (x7802.b = x7470)), .bool true]) rfl rfl RCs.nil)
        obtain ⟨hc7866, hM⟩ := chk_ok hM
        refine wl_append_src Try.underlying111 ty110 rfl (by decide) hS7864 (a := _) (nn := _) (c := _) rfl (a2 := _) (k2 := _) (c2 := _) rfl (.there (.there (.there (.there .here)))) (row_src (hS7864.toHeld.own .here) (RCs.allOne RCome.one (by decide) hrc7865)) (lim_b hc7866 rfl) (lim_a hc7866) ?_
        intro a7867 c7868 w7869 hS7870
        have hrc7872 := RCs.append hrc7443 hrc7865
        generalize cs7441 ++ [.int .i64 x7786, .bool (decide (x7802.b = x7470)), .bool true] = cs7873 at hS7870 hrc7872
        have hS7874 := hS7870.weaken (.cons_cons _ (.cons _ (.cons_cons _ (.cons_cons _ (.cons_cons _ (.cons_cons _ (.cons_cons _ (.refl _))))))))
        refine wl_h hS7874.toHeld (r_assign (v := .slice _ _ _) rfl) <| wl_nil <| c_exit <| q_miss (by decide) <| q_loopx <| q_miss (by decide) ?_
        refine q_hit <| c_nil <| q_loop ?_
        have hS7875 := hS7874.weaken (.cons_cons _ (.cons_cons _ (.cons _ (.cons_cons _ (.cons_cons _ (.cons_cons _ (.refl _)))))))
        have hS7876 := hS7875.front (.there (.there (.there (.there .here))))
        have hS7877 := hS7876.front (.there (.there (.there (.there .here))))
        have hS7878 := hS7877.front (.there (.there (.there .here)))
        have hS7879 := hS7878.front (.there (.there (.there .here)))
        have hS7880 := hS7879.front (.there (.there (.there (.there .here))))
        exact ⟨k_1, Nat.lt_succ_self _, l7430, (l7437 ++ [(⟨(⟨x7786, decide (x7802.b = x7470)⟩ : Step), true⟩ : Come)]), (l7444 ++ [(x7802.a + x7802.b) - x7470]), (l7451.set x7786.toNat (x7826 - 1)), a7431, l7430.length, c7433, cs7434, a7867, (l7437.length + 1), c7868, cs7873, a7853, (l7444.length + 1), c7854, cs7859, (some ⟨b7820, 0, none⟩), l7451.length, c7454, cs7844, hM, row_n (hS7880.toHeld.own .here) hrc7436 (by decide), hrc7436, row_n (hS7880.toHeld.own (.there .here)) hrc7872 (by decide), hrc7872, row_n (hS7880.toHeld.own (.there (.there .here))) hrc7858 (by decide), hrc7858, row_n (hS7880.toHeld.own (.there (.there (.there .here)))) hrc7843 (by decide), hrc7843, hS7880, rfl, rfl, rfl, rfl, rfl, rfl⟩
       ·replace hM := bif_f h7825 hM
        refine wl_on (t := 83) rfl rfl ?_
        refine wl_h hS7815.toHeld (r_fieldAddr fld106_1 (b := _) (o := _) rfl) <| wl_on (t := 83) rfl rfl ?_
        refine wl_h hS7815.toHeld (r_box ty3 (k := 1) .here rfl rfl rfl (v := .int .i64 _) rfl) <| wl_on (t := 83) rfl rfl ?_
        refine wl_h hS7815.toHeld (r_move (v := .int .i64 _) rfl) <| wl_on (t := 83) rfl rfl ?_
        refine wl_h hS7815.toHeld (r_eql (a := _) (b := _) rfl rfl) <| wl_on (t := 78) rfl rfl ?_
        refine wl_h hS7815.toHeld (r_pick_f rfl (v := .bool _) rfl) <| wl_h hS7815.toHeld (r_pick_t rfl (v := .bool _) rfl) <| wl_nil <| c_cond (c := _) rfl (fun h7881 => ?_) (fun h7881 => ?_)
        ·replace hM := bif_t h7881 hM
         refine c_seq <| c_region <| wl_h hS7815.toHeld (r_move (v := .slice _ _ _) rfl) <| wl_h hS7815.toHeld (r_move (v := .int .i64 _) rfl) ?_
         obtain ⟨x7882, hx7883, h7884, h7885, hM⟩ := getK_ok hM
         obtain ⟨es7886, hes7887, hR7888⟩ := row_read hrc7457 hx7883
         obtain rfl := hR7888
         refine wl_h hS7815.toHeld (r_indexAddr Try.underlying35 ty3 (b := _) (o := _) (n := _) (c := _) (i := x7786) rfl rfl h7884 (row_lt (hS7815.toHeld.own (.there (.there (.there (.there .here))))) hrc7457 (by decide) h7885)) <| wl_h hS7815.toHeld (r_row ty3 (k := 0) (i := x7786.toNat) (.there (.there (.there (.there .here)))) rfl rfl (row_room hrc7457 hx7883) hes7887 rfl (v := .int .i64 _) rfl) ?_
         obtain ⟨hc7889, hM⟩ := chk_ok hM
         refine wl_h hS7815.toHeld (r_sub (a := _) (b := _) rfl rfl (ok_lo hc7889) (ok_hi hc7889)) ?_
         obtain ⟨x7890, hx7891, h7892, h7893, hM⟩ := getK_ok hM
         obtain ⟨es7894, hes7895, hR7896⟩ := row_read hrc7457 hx7891
         obtain rfl := hR7896
         refine wl_h hS7815.toHeld (r_indexAddr Try.underlying35 ty3 (b := _) (o := _) (n := _) (c := _) (i := x7786) rfl rfl h7892 (row_lt (hS7815.toHeld.own (.there (.there (.there (.there .here))))) hrc7457 (by decide) h7893)) <| wl_store_row ty3 hS7815 rfl (v := .int .i64 _) rfl (vs := [.int .i64 _]) rfl rfl rfl (.there (.there (.there (.there .here)))) (Nat.le_trans (by simp only [Nat.zero_add]; omega) (row_room hrc7457 hx7891)) ?_
         intro w7897 hS7898
         have hrc7899 := RCs.seti hrc7457 hx7891 (vs := [.int .i64 (x7882 - 1)]) (y := x7882 - 1) rfl rfl
         generalize spl cs7455 (0 + x7786.toNat * 1) [.int .i64 (x7882 - 1)] = cs7900 at hS7898 hrc7899
         refine wl_nil <| c_seq <| c_region <| wl_h hS7898.toHeld (r_move (v := .slice _ _ _) rfl) <| wl_h hS7898.toHeld (r_fieldAddr fld106_0 (b := _) (o := _) rfl) ?_
         refine wl_h hS7898.toHeld (r_box ty3 (k := 0) .here rfl rfl rfl (v := .int .i64 _) rfl) <| wl_h hS7898.toHeld (r_fieldAddr fld106_1 (b := _) (o := _) rfl) <| wl_h hS7898.toHeld (r_box ty3 (k := 1) .here rfl rfl rfl (v := .int .i64 _) rfl) ?_
         obtain ⟨hc7901, hM⟩ := chk_ok hM
         refine wl_h hS7898.toHeld (r_add (a := _) (b := _) rfl rfl (ok_lo hc7901) (ok_hi hc7901)) <| wl_h hS7898.toHeld (r_move (v := .int .i64 _) rfl) ?_
         obtain ⟨hc7902, hM⟩ := chk_ok hM
         refine wl_h hS7898.toHeld (r_sub (a := _) (b := _) rfl rfl (ok_lo hc7902) (ok_hi hc7902)) <| wl_buildSlice Try.underlying35 ty3 rfl (by decide) (by decide) hS7898 (ps := [(0, [.int .i64 _])]) rfl rfl (cs := [.int .i64 _]) rfl rfl (by decide) ?_
         intro b7904 w7905 hS7906
         have hrc7907 : RCs 1 RInt m [.int .i64 ((x7802.a + x7802.b) - x7470)] ([(x7802.a + x7802.b) - x7470] : List Int) := (RCs.cons (d := [.int .i64 ((x7802.a + x7802.b) - x7470)]) rfl rfl RCs.nil)
         obtain ⟨hc7908, hM⟩ := chk_ok hM
         refine wl_append_src Try.underlying35 ty3 rfl (by decide) hS7906 (a := _) (nn := _) (c := _) rfl (a2 := _) (k2 := _) (c2 := _) rfl (.there (.there (.there (.there .here)))) (row_src (hS7906.toHeld.own .here) (RCs.allOne RInt.one (by decide) hrc7907)) (lim_b hc7908 rfl) (lim_a hc7908) ?_
         intro a7909 c7910 w7911 hS7912
         have hrc7914 := RCs.append hrc7450 hrc7907
         generalize cs7448 ++ [.int .i64 ((x7802.a + x7802.b) - x7470)] = cs7915 at hS7912 hrc7914
         have hS7916 := hS7912.weaken (.cons_cons _ (.cons _ (.cons_cons _ (.cons_cons _ (.cons_cons _ (.cons_cons _ (.cons_cons _ (.refl _))))))))
         refine wl_h hS7916.toHeld (r_assign (v := .slice _ _ _) rfl) <| wl_nil <| c_seq <| c_region <| wl_h hS7916.toHeld (r_move (v := .slice _ _ _) rfl) ?_
         refine wl_h hS7916.toHeld (r_move (v := .int .i64 _) rfl) <| wl_h hS7916.toHeld (r_fieldAddr fld106_1 (b := _) (o := _) rfl) <| wl_h hS7916.toHeld (r_box ty3 (k := 1) (.there .here) rfl rfl rfl (v := .int .i64 _) rfl) <| wl_h hS7916.toHeld (r_move (v := .int .i64 _) rfl) <| wl_h hS7916.toHeld (r_eql (a := _) (b := _) rfl rfl) ?_
         refine wl_h hS7916.toHeld (r_build ty108 st108 (ps := [(0, [.int .i64 _]), (1, [.bool _])]) rfl rfl (cs := [.int .i64 _, .bool _]) rfl) <| wl_h hS7916.toHeld (r_build ty110 st110 (ps := [(0, [.int .i64 _, .bool _]), (1, [.bool _])]) rfl rfl (cs := [.int .i64 _, .bool _, .bool _]) rfl) <| wl_buildSlice Try.underlying111 ty110 rfl (by decide) (by decide) hS7916 (ps := [(0, [.int .i64 _, .bool _, .bool _])]) rfl rfl (cs := [.int .i64 _, .bool _, .bool _]) rfl rfl (by decide) ?_
         intro b7918 w7919 hS7920
         have hrc7921 : RCs 3 RCome m [.int .i64 x7786, .bool (decide (x7802.b = x7470)), .bool true] ([(⟨(⟨x7786, decide (x7802.b = x7470)⟩ : Step), true⟩ : Come)] : List Come) := (RCs.cons (d := [.int .i64 x7786, .bool (decide (x7802.b = x7470)), .bool true]) rfl rfl RCs.nil)
         obtain ⟨hc7922, hM⟩ := chk_ok hM
         refine wl_append_src Try.underlying111 ty110 rfl (by decide) hS7920 (a := _) (nn := _) (c := _) rfl (a2 := _) (k2 := _) (c2 := _) rfl (.there (.there (.there (.there .here)))) (row_src (hS7920.toHeld.own .here) (RCs.allOne RCome.one (by decide) hrc7921)) (lim_b hc7922 rfl) (lim_a hc7922) ?_
         intro a7923 c7924 w7925 hS7926
         have hrc7928 := RCs.append hrc7443 hrc7921
         generalize cs7441 ++ [.int .i64 x7786, .bool (decide (x7802.b = x7470)), .bool true] = cs7929 at hS7926 hrc7928
         have hS7930 := hS7926.weaken (.cons_cons _ (.cons _ (.cons_cons _ (.cons_cons _ (.cons_cons _ (.cons_cons _ (.cons_cons _ (.refl _))))))))
         refine wl_h hS7930.toHeld (r_assign (v := .slice _ _ _) rfl) <| wl_nil <| c_exit <| q_miss (by decide) <| q_loopx <| q_miss (by decide) ?_
         refine q_hit <| c_nil <| q_loop ?_
         have hS7931 := hS7930.weaken (.cons_cons _ (.cons_cons _ (.cons _ (.cons_cons _ (.cons_cons _ (.cons_cons _ (.refl _)))))))
         have hS7932 := hS7931.front (.there (.there (.there (.there .here))))
         have hS7933 := hS7932.front (.there (.there (.there (.there .here))))
         have hS7934 := hS7933.front (.there (.there (.there .here)))
         have hS7935 := hS7934.front (.there (.there (.there .here)))
         have hS7936 := hS7935.front (.there (.there (.there (.there .here))))
         exact ⟨k_1, Nat.lt_succ_self _, l7430, (l7437 ++ [(⟨(⟨x7786, decide (x7802.b = x7470)⟩ : Step), true⟩ : Come)]), (l7444 ++ [(x7802.a + x7802.b) - x7470]), (l7451.set x7786.toNat (x7882 - 1)), a7431, l7430.length, c7433, cs7434, a7923, (l7437.length + 1), c7924, cs7929, a7909, (l7444.length + 1), c7910, cs7915, (some ⟨b7820, 0, none⟩), l7451.length, c7454, cs7900, hM, row_n (hS7936.toHeld.own .here) hrc7436 (by decide), hrc7436, row_n (hS7936.toHeld.own (.there .here)) hrc7928 (by decide), hrc7928, row_n (hS7936.toHeld.own (.there (.there .here))) hrc7914 (by decide), hrc7914, row_n (hS7936.toHeld.own (.there (.there (.there .here)))) hrc7899 (by decide), hrc7899, hS7936, rfl, rfl, rfl, rfl, rfl, rfl⟩
        ·replace hM := bif_f h7881 hM
         refine c_skip <| c_nil <| q_norm <| c_region ?_
         obtain ⟨hc7937, hM⟩ := chk_ok hM
         refine wl_h hS7815.toHeld (r_add (a := _) (b := _) rfl rfl (ok_lo hc7937) (ok_hi hc7937)) <| wl_h hS7815.toHeld (r_move (v := .int .i64 _) rfl) <| wl_nil <| c_nil <| q_loop ?_
         have hS7938 := hS7815.weaken (.cons _ (.cons_cons _ (.cons_cons _ (.cons_cons _ (.cons_cons _ (.cons_cons _ (.refl _)))))))
         exact ⟨k_2, Nat.lt_succ_self _, x7786 + 1, hM, hS7938, rfl, rfl, rfl, rfl, rfl, rfl, rfl, rfl, rfl, rfl⟩
      ·replace hM := bif_f h7824 hM
       refine wl_off (t := 78) (b := false) rfl rfl rfl ?_
       refine wl_off (t := 78) (b := false) rfl rfl rfl ?_
       refine wl_off (t := 78) (b := false) rfl rfl rfl ?_
       refine wl_off (t := 78) (b := false) rfl rfl rfl ?_
       refine wl_off (t := 78) (b := false) rfl rfl rfl ?_
       refine wl_none (t := 83) rfl rfl ?_
       refine wl_none (t := 83) rfl rfl ?_
       refine wl_none (t := 83) rfl rfl ?_
       refine wl_none (t := 83) rfl rfl ?_
       refine wl_off (t := 78) (b := false) rfl rfl rfl ?_
       refine wl_h hS7815.toHeld (r_pick_f rfl (v := .bool _) rfl) <| wl_nil <| c_false rfl <| c_skip <| c_nil <| q_norm <| c_region ?_
       obtain ⟨hc7939, hM⟩ := chk_ok hM
       refine wl_h hS7815.toHeld (r_add (a := _) (b := _) rfl rfl (ok_lo hc7939) (ok_hi hc7939)) <| wl_h hS7815.toHeld (r_move (v := .int .i64 _) rfl) <| wl_nil <| c_nil <| q_loop ?_
       have hS7940 := hS7815.weaken (.cons _ (.cons_cons _ (.cons_cons _ (.cons_cons _ (.cons_cons _ (.cons_cons _ (.refl _)))))))
       exact ⟨k_2, Nat.lt_succ_self _, x7786 + 1, hM, hS7940, rfl, rfl, rfl, rfl, rfl, rfl, rfl, rfl, rfl, rfl⟩
     ·replace hM := bif_f h7801 hM
      refine c_exit <| q_loopx <| q_hit <| c_seq <| c_seq <| c_region <| wl_h hS7790.toHeld (r_move (v := .slice _ _ _) rfl) ?_
      refine wl_h hS7790.toHeld (r_move (v := .slice _ _ _) rfl) <| wl_h hS7790.toHeld (r_len Try.underlying111 (a := _) (n := _) (c := _) rfl) ?_
      obtain ⟨hc7941, hM⟩ := chk_ok hM
      refine wl_h hS7790.toHeld (r_sub (a := _) (b := _) rfl rfl (ok_lo hc7941) (ok_hi hc7941)) ?_
      obtain ⟨x7942, hx7943, h7944, h7945, hM⟩ := getK_ok hM
      obtain ⟨b7946, rfl⟩ := row_some (hS7790.toHeld.own (.there .here)) hrc7443 (by decide) h7944 h7945
      obtain ⟨es7947, hes7948, hR7949⟩ := row_read hrc7443 hx7943
      obtain rfl := hR7949
      refine wl_h hS7790.toHeld (r_indexAddr Try.underlying111 ty110 (b := _) (o := _) (n := _) (c := _) (i := ((l7437.length : Nat) : Int) - 1) rfl rfl h7944 (row_lt (hS7790.toHeld.own (.there .here)) hrc7443 (by decide) h7945)) <| wl_h hS7790.toHeld (r_row ty110 (k := 0) (i := (((l7437.length : Nat) : Int) - 1).toNat) (.there .here) rfl rfl (row_room hrc7443 hx7943) hes7948 rfl (v := .agg #[.int .i64 _, .bool _, .bool _]) rfl) <| wl_alloc ty110 rfl hS7790 ?_
      intro b7950 w7951 hS7952
      refine wl_store_box ty110 hS7952 rfl (v := .agg #[.int .i64 _, .bool _, .bool _]) rfl (vs := [.int .i64 _, .bool _, .bool _]) rfl rfl rfl .here (cs' := [.int .i64 _, .bool _, .bool _]) rfl rfl ?_
      intro w7953 hS7954
      refine wl_nil <| c_seq <| c_region <| wl_h hS7954.toHeld (r_fieldAddr fld110_1 (b := _) (o := _) rfl) <| wl_h hS7954.toHeld (r_box ty4 (k := 2) .here rfl rfl rfl (v := .bool _) rfl) ?_
      refine wl_nil <| c_cond (c := _) rfl (fun h7955 => ?_) (fun h7955 => ?_)
      ·replace hM := bif_t h7955 hM
       refine c_region <| wl_h hS7954.toHeld (r_move (v := .slice _ _ _) rfl) <| wl_h hS7954.toHeld (r_fieldAddr fld110_0 (b := _) (o := _) rfl) <| wl_h hS7954.toHeld (r_box ty108 (k := 0) .here rfl rfl rfl (v := .agg #[.int .i64 _, .bool _]) rfl) <| wl_buildSlice Try.underlying68 ty108 rfl (by decide) (by decide) hS7954 (ps := [(0, [.int .i64 _, .bool _])]) rfl rfl (cs := [.int .i64 _, .bool _]) rfl rfl (by decide) ?_
       intro b7957 w7958 hS7959
       have hrc7960 : RCs 2 RStep m [.int .i64 x7942.step.street, .bool x7942.step.back] ([(⟨x7942.step.street, x7942.step.back⟩ : Step)] : List Step) := (RCs.cons (d := [.int .i64 x7942.step.street, .bool x7942.step.back]) rfl rfl RCs.nil)
       obtain ⟨hc7961, hM⟩ := chk_ok hM
       refine wl_append_src Try.underlying68 ty108 rfl (by decide) hS7959 (a := _) (nn := _) (c := _) rfl (a2 := _) (k2 := _) (c2 := _) rfl (.there (.there .here)) (row_src (hS7959.toHeld.own .here) (RCs.allOne RStep.one (by decide) hrc7960)) (lim_b hc7961 rfl) (lim_a hc7961) ?_
       intro a7962 c7963 w7964 hS7965
       have hrc7967 := RCs.append hrc7436 hrc7960
       generalize cs7434 ++ [.int .i64 x7942.step.street, .bool x7942.step.back] = cs7968 at hS7965 hrc7967
       have hS7969 := hS7965.weaken (.cons_cons _ (.cons _ (.cons_cons _ (.cons_cons _ (.cons_cons _ (.cons_cons _ (.cons_cons _ (.refl _))))))))
       refine wl_h hS7969.toHeld (r_assign (v := .slice _ _ _) rfl) <| wl_nil ?_
       obtain ⟨hc7986, hM⟩ := chk_ok hM
       obtain ⟨hc7987, hM⟩ := chk_ok hM
       obtain ⟨hc7988, hM⟩ := chk_ok hM
       obtain ⟨hc7993, hM⟩ := chk_ok hM
       have hH8011 := (hS7969.weaken (.cons_cons _ (.cons_cons _ (.cons _ (.cons _ (.cons_cons _ (.cons_cons _ (.refl _)))))))).toHeld
       refine c_drawJ (k := 12) (fun f w => ∃ (a7999 : Option Addr) (n8000 : Nat) (c8001 : Nat) (cs8002 : List Value) (a8005 : Option Addr) (n8006 : Nat) (c8007 : Nat) (cs8008 : List Value), n8000 = ((l7437.take (((l7437.length : Nat) : Int) - 1).toNat)).length ∧ RCs 3 RCome m cs8002 (l7437.take (((l7437.length : Nat) : Int) - 1).toNat) ∧ n8006 = ((l7444.take (((l7444.length : Nat) : Int) - 1).toNat)).length ∧ RCs 1 RInt m cs8008 (l7444.take (((l7444.length : Nat) : Int) - 1).toNat) ∧ St w m (.row (.slice a7962 (l7430.length + 1) c7963) 108 2 cs7968 :: .row (.slice a7999 n8000 c8001) 110 3 cs8002 :: .row (.slice a8005 n8006 c8007) 3 1 cs8008 :: .row (.slice a7452 l7451.length c7454) 3 1 cs7455 :: .box b10 73 [.int .i64 r3.corners, .slice a4 r3.streets.length c6] :: L) ∧ f 2 = .pointer (some ⟨b10, 0, none⟩) ∧ f 8 = .slice a7452 l7451.length c7454 ∧ f 9 = .int .i64 length5417 ∧ f 12 = .slice a8005 n8006 c8007 ∧ f 13 = .slice a7999 n8000 c8001 ∧ f 14 = .slice a7962 (l7430.length + 1) c7963) (fun w => Held w m (.row (.slice a7962 (l7430.length + 1) c7963) 108 2 cs7968 :: .box b7950 110 [.int .i64 x7942.step.street, .bool x7942.step.back, .bool x7942.any] :: .row (.slice a7452 l7451.length c7454) 3 1 cs7455 :: .box b10 73 [.int .i64 r3.corners, .slice a4 r3.streets.length c6] :: L)) mixed rfl ?_ ?_
       ·replace hH8011 := hH8011.drew1
        have hS8012 := hS7969.drew1
        refine d_v (i := 0) rfl (by kernel_rfl) rfl (r_move (v := .slice _ _ _) rfl) hH8011 ?_
        refine d_v (i := 1) rfl (by kernel_rfl) rfl (r_move (v := .slice _ _ _) rfl) hH8011 ?_
        refine d_v (i := 2) rfl (by kernel_rfl) rfl (r_len Try.underlying35 (a := _) (n := _) (c := _) rfl) hH8011 ?_
        refine d_v (i := 3) rfl (by kernel_rfl) rfl (r_sub (a := _) (b := _) rfl rfl (ok_lo hc7986) (ok_hi hc7986)) hH8011 ?_
        refine d_v (i := 5) rfl (by kernel_rfl) rfl (r_move (v := .slice _ _ _) rfl) hH8011 ?_
        refine d_v (i := 6) rfl (by kernel_rfl) rfl (r_move (v := .slice _ _ _) rfl) hH8011 ?_
        refine d_v (i := 7) rfl (by kernel_rfl) rfl (r_len Try.underlying111 (a := _) (n := _) (c := _) rfl) hH8011 ?_
        refine d_v (i := 8) rfl (by kernel_rfl) rfl (r_sub (a := _) (b := _) rfl rfl (ok_lo hc7987) (ok_hi hc7987)) hH8011 ?_
        refine d_all (rs := [4, 9]) (by kernel_rfl) (by simp) (fun j hj o ho => ?_)
        simp only [List.mem_cons, List.not_mem_nil, or_false] at hj
        rcases hj with rfl | rfl
        ·cases ho
         refine wl_h hS8012.toHeld (r_slice_hi Try.underlying35 ty3 (a := _) (n := _) (c := _) (h := ((l7444.length : Nat) : Int) - 1) rfl rfl (upto_0 hc7988) (upto_c hc7988 (row_cap (hS8012.toHeld.own (.there (.there (.there .here))))))) ?_
         have hrc8014 := RCs.take hrc7450 (((l7444.length : Nat) : Int) - 1).toNat (by rw [← row_n (hS8012.toHeld.own (.there (.there (.there .here)))) hrc7450 (by decide)]; exact upto_n hc7988)
         have hS8013 := hS8012.trunc (k := (((l7444.length : Nat) : Int) - 1).toNat) (upto_n hc7988) (.there (.there (.there .here)))
         generalize cs7448.take ((((l7444.length : Nat) : Int) - 1).toNat * 1) = cs8015 at hS8013 hrc8014
         refine wl_nil ?_
         have hH8016 := hS8013.toHeld.mono (Mem.le_refl _) (List.Sublist.subset (.cons_cons _ (.cons_cons _ (.cons _ (.cons _ (.cons_cons _ (.cons_cons _ (.refl _))))))))
         refine ⟨hH8016, ?_⟩
         refine d_v (i := 10) rfl (by kernel_rfl) rfl (r_assign (v := .slice _ _ _) rfl) hH8016 ?_
         refine d_all (rs := [9]) (by kernel_rfl) (by simp) (fun j hj o ho => ?_)
         obtain rfl : j = 9 := by simpa using hj
         cases ho
         refine wl_h hS8013.toHeld (r_slice_hi Try.underlying111 ty110 (a := _) (n := _) (c := _) (h := ((l7437.length : Nat) : Int) - 1) rfl rfl (upto_0 hc7993) (upto_c hc7993 (row_cap (hS8013.toHeld.own (.there (.there .here)))))) ?_
         have hrc8018 := RCs.take hrc7443 (((l7437.length : Nat) : Int) - 1).toNat (by rw [← row_n (hS8013.toHeld.own (.there (.there .here))) hrc7443 (by decide)]; exact upto_n hc7993)
         have hS8017 := hS8013.trunc (k := (((l7437.length : Nat) : Int) - 1).toNat) (upto_n hc7993) (.there (.there .here))
         generalize cs7441.take ((((l7437.length : Nat) : Int) - 1).toNat * 3) = cs8019 at hS8017 hrc8018
         refine wl_nil ?_
         have hH8020 := hS8017.toHeld.mono (Mem.le_refl _) (List.Sublist.subset (.cons_cons _ (.cons_cons _ (.cons _ (.cons _ (.cons_cons _ (.cons_cons _ (.refl _))))))))
         refine ⟨hH8020, ?_⟩
         refine d_v (i := 11) rfl (by kernel_rfl) rfl (r_assign (v := .slice _ _ _) rfl) hH8020 ?_
         refine d_end (by kernel_rfl) ?_
         have hS8021 := hS8017.weaken (.cons_cons _ (.cons _ (.cons_cons _ (.cons_cons _ (.cons_cons _ (.cons_cons _ (.refl _)))))))
         exact ⟨_, _, _, _, _, _, _, _, row_n (hS8021.toHeld.own (.there .here)) hrc8018 (by decide), hrc8018, row_n (hS8021.toHeld.own (.there (.there .here))) hrc8014 (by decide), hrc8014, hS8021, rfl, rfl, rfl, rfl, rfl, rfl⟩
        ·cases ho
         refine wl_h hS8012.toHeld (r_slice_hi Try.underlying111 ty110 (a := _) (n := _) (c := _) (h := ((l7437.length : Nat) : Int) - 1) rfl rfl (upto_0 hc7993) (upto_c hc7993 (row_cap (hS8012.toHeld.own (.there (.there .here)))))) ?_
         have hrc8023 := RCs.take hrc7443 (((l7437.length : Nat) : Int) - 1).toNat (by rw [← row_n (hS8012.toHeld.own (.there (.there .here))) hrc7443 (by decide)]; exact upto_n hc7993)
         have hS8022 := hS8012.trunc (k := (((l7437.length : Nat) : Int) - 1).toNat) (upto_n hc7993) (.there (.there .here))
         generalize cs7441.take ((((l7437.length : Nat) : Int) - 1).toNat * 3) = cs8024 at hS8022 hrc8023
         refine wl_nil ?_
         have hH8025 := hS8022.toHeld.mono (Mem.le_refl _) (List.Sublist.subset (.cons_cons _ (.cons_cons _ (.cons _ (.cons _ (.cons_cons _ (.cons_cons _ (.refl _))))))))
         refine ⟨hH8025, ?_⟩
         refine d_all (rs := [4]) (by kernel_rfl) (by simp) (fun j hj o ho => ?_)
         obtain rfl : j = 4 := by simpa using hj
         cases ho
         refine wl_h hS8022.toHeld (r_slice_hi Try.underlying35 ty3 (a := _) (n := _) (c := _) (h := ((l7444.length : Nat) : Int) - 1) rfl rfl (upto_0 hc7988) (upto_c hc7988 (row_cap (hS8022.toHeld.own (.there (.there (.there .here))))))) ?_
         have hrc8027 := RCs.take hrc7450 (((l7444.length : Nat) : Int) - 1).toNat (by rw [← row_n (hS8022.toHeld.own (.there (.there (.there .here)))) hrc7450 (by decide)]; exact upto_n hc7988)
         have hS8026 := hS8022.trunc (k := (((l7444.length : Nat) : Int) - 1).toNat) (upto_n hc7988) (.there (.there (.there .here)))
         generalize cs7448.take ((((l7444.length : Nat) : Int) - 1).toNat * 1) = cs8028 at hS8026 hrc8027
         refine wl_nil ?_
         have hH8029 := hS8026.toHeld.mono (Mem.le_refl _) (List.Sublist.subset (.cons_cons _ (.cons_cons _ (.cons _ (.cons _ (.cons_cons _ (.cons_cons _ (.refl _))))))))
         refine ⟨hH8029, ?_⟩
         refine d_v (i := 10) rfl (by kernel_rfl) rfl (r_assign (v := .slice _ _ _) rfl) hH8029 ?_
         refine d_v (i := 11) rfl (by kernel_rfl) rfl (r_assign (v := .slice _ _ _) rfl) hH8029 ?_
         refine d_end (by kernel_rfl) ?_
         have hS8030 := hS8026.weaken (.cons_cons _ (.cons _ (.cons_cons _ (.cons_cons _ (.cons_cons _ (.cons_cons _ (.refl _)))))))
         exact ⟨_, _, _, _, _, _, _, _, row_n (hS8030.toHeld.own (.there .here)) hrc8023 (by decide), hrc8023, row_n (hS8030.toHeld.own (.there (.there .here))) hrc8027 (by decide), hrc8027, hS8030, rfl, rfl, rfl, rfl, rfl, rfl⟩
       ·rintro f8038 w8039 ⟨a7999, n8000, c8001, cs8002, a8005, n8006, c8007, cs8008, hn8003, hrc8004, hn8009, hrc8010, hS8031, e8032, e8033, e8034, e8035, e8036, e8037⟩
        subst hn8003
        subst hn8009
        refine c_know (t := 2) e8032 <| c_know (t := 8) e8033 <| c_know (t := 9) e8034 <| c_know (t := 12) e8035 <| c_know (t := 13) e8036 ?_
        refine c_know (t := 14) e8037 ?_
        clear e8032 e8033 e8034 e8035 e8036 e8037
        refine c_nil <| q_norm <| c_nil <| q_loop ?_
        exact ⟨k_1, Nat.lt_succ_self _, (l7430 ++ [(⟨x7942.step.street, x7942.step.back⟩ : Step)]), (l7437.take (((l7437.length : Nat) : Int) - 1).toNat), (l7444.take (((l7444.length : Nat) : Int) - 1).toNat), l7451, a7962, (l7430.length + 1), c7963, cs7968, a7999, ((l7437.take (((l7437.length : Nat) : Int) - 1).toNat)).length, c8001, cs8002, a8005, ((l7444.take (((l7444.length : Nat) : Int) - 1).toNat)).length, c8007, cs8008, a7452, l7451.length, c7454, cs7455, hM, row_n (hS8031.toHeld.own .here) hrc7967 (by decide), hrc7967, row_n (hS8031.toHeld.own (.there .here)) hrc8004 (by decide), hrc8004, row_n (hS8031.toHeld.own (.there (.there .here))) hrc8010 (by decide), hrc8010, row_n (hS8031.toHeld.own (.there (.there (.there .here)))) hrc7457 (by decide), hrc7457, hS8031, rfl, rfl, rfl, rfl, rfl, rfl⟩
      ·replace hM := bif_f h7955 hM
       refine c_skip ?_
       obtain ⟨hc8056, hM⟩ := chk_ok hM
       obtain ⟨hc8057, hM⟩ := chk_ok hM
       obtain ⟨hc8058, hM⟩ := chk_ok hM
       obtain ⟨hc8063, hM⟩ := chk_ok hM
       have hH8081 := (hS7954.weaken (.cons_cons _ (.cons_cons _ (.cons _ (.cons _ (.cons_cons _ (.cons_cons _ (.refl _)))))))).toHeld
       refine c_drawJ (k := 12) (fun f w => ∃ (a8069 : Option Addr) (n8070 : Nat) (c8071 : Nat) (cs8072 : List Value) (a8075 : Option Addr) (n8076 : Nat) (c8077 : Nat) (cs8078 : List Value), n8070 = ((l7437.take (((l7437.length : Nat) : Int) - 1).toNat)).length ∧ RCs 3 RCome m cs8072 (l7437.take (((l7437.length : Nat) : Int) - 1).toNat) ∧ n8076 = ((l7444.take (((l7444.length : Nat) : Int) - 1).toNat)).length ∧ RCs 1 RInt m cs8078 (l7444.take (((l7444.length : Nat) : Int) - 1).toNat) ∧ St w m (.row (.slice a7431 l7430.length c7433) 108 2 cs7434 :: .row (.slice a8069 n8070 c8071) 110 3 cs8072 :: .row (.slice a8075 n8076 c8077) 3 1 cs8078 :: .row (.slice a7452 l7451.length c7454) 3 1 cs7455 :: .box b10 73 [.int .i64 r3.corners, .slice a4 r3.streets.length c6] :: L) ∧ f 2 = .pointer (some ⟨b10, 0, none⟩) ∧ f 8 = .slice a7452 l7451.length c7454 ∧ f 9 = .int .i64 length5417 ∧ f 12 = .slice a8075 n8076 c8077 ∧ f 13 = .slice a8069 n8070 c8071 ∧ f 14 = .slice a7431 l7430.length c7433) (fun w => Held w m (.box b7950 110 [.int .i64 x7942.step.street, .bool x7942.step.back, .bool x7942.any] :: .row (.slice a7431 l7430.length c7433) 108 2 cs7434 :: .row (.slice a7452 l7451.length c7454) 3 1 cs7455 :: .box b10 73 [.int .i64 r3.corners, .slice a4 r3.streets.length c6] :: L)) mixed rfl ?_ ?_
       ·replace hH8081 := hH8081.drew1
        have hS8082 := hS7954.drew1
        refine d_v (i := 0) rfl (by kernel_rfl) rfl (r_move (v := .slice _ _ _) rfl) hH8081 ?_
        refine d_v (i := 1) rfl (by kernel_rfl) rfl (r_move (v := .slice _ _ _) rfl) hH8081 ?_
        refine d_v (i := 2) rfl (by kernel_rfl) rfl (r_len Try.underlying35 (a := _) (n := _) (c := _) rfl) hH8081 ?_
        refine d_v (i := 3) rfl (by kernel_rfl) rfl (r_sub (a := _) (b := _) rfl rfl (ok_lo hc8056) (ok_hi hc8056)) hH8081 ?_
        refine d_v (i := 5) rfl (by kernel_rfl) rfl (r_move (v := .slice _ _ _) rfl) hH8081 ?_
        refine d_v (i := 6) rfl (by kernel_rfl) rfl (r_move (v := .slice _ _ _) rfl) hH8081 ?_
        refine d_v (i := 7) rfl (by kernel_rfl) rfl (r_len Try.underlying111 (a := _) (n := _) (c := _) rfl) hH8081 ?_
        refine d_v (i := 8) rfl (by kernel_rfl) rfl (r_sub (a := _) (b := _) rfl rfl (ok_lo hc8057) (ok_hi hc8057)) hH8081 ?_
        refine d_all (rs := [4, 9]) (by kernel_rfl) (by simp) (fun j hj o ho => ?_)
        simp only [List.mem_cons, List.not_mem_nil, or_false] at hj
        rcases hj with rfl | rfl
        ·cases ho
         refine wl_h hS8082.toHeld (r_slice_hi Try.underlying35 ty3 (a := _) (n := _) (c := _) (h := ((l7444.length : Nat) : Int) - 1) rfl rfl (upto_0 hc8058) (upto_c hc8058 (row_cap (hS8082.toHeld.own (.there (.there (.there .here))))))) ?_
         have hrc8084 := RCs.take hrc7450 (((l7444.length : Nat) : Int) - 1).toNat (by rw [← row_n (hS8082.toHeld.own (.there (.there (.there .here)))) hrc7450 (by decide)]; exact upto_n hc8058)
         have hS8083 := hS8082.trunc (k := (((l7444.length : Nat) : Int) - 1).toNat) (upto_n hc8058) (.there (.there (.there .here)))
         generalize cs7448.take ((((l7444.length : Nat) : Int) - 1).toNat * 1) = cs8085 at hS8083 hrc8084
         refine wl_nil ?_
         have hH8086 := hS8083.toHeld.mono (Mem.le_refl _) (List.Sublist.subset (.cons_cons _ (.cons_cons _ (.cons _ (.cons _ (.cons_cons _ (.cons_cons _ (.refl _))))))))
         refine ⟨hH8086, ?_⟩
         refine d_v (i := 10) rfl (by kernel_rfl) rfl (r_assign (v := .slice _ _ _) rfl) hH8086 ?_
         refine d_all (rs := [9]) (by kernel_rfl) (by simp) (fun j hj o ho => ?_)
         obtain rfl : j = 9 := by simpa using hj
         cases ho
         refine wl_h hS8083.toHeld (r_slice_hi Try.underlying111 ty110 (a := _) (n := _) (c := _) (h := ((l7437.length : Nat) : Int) - 1) rfl rfl (upto_0 hc8063) (upto_c hc8063 (row_cap (hS8083.toHeld.own (.there (.there .here)))))) ?_
         have hrc8088 := RCs.take hrc7443 (((l7437.length : Nat) : Int) - 1).toNat (by rw [← row_n (hS8083.toHeld.own (.there (.there .here))) hrc7443 (by decide)]; exact upto_n hc8063)
         have hS8087 := hS8083.trunc (k := (((l7437.length : Nat) : Int) - 1).toNat) (upto_n hc8063) (.there (.there .here))
         generalize cs7441.take ((((l7437.length : Nat) : Int) - 1).toNat * 3) = cs8089 at hS8087 hrc8088
         refine wl_nil ?_
         have hH8090 := hS8087.toHeld.mono (Mem.le_refl _) (List.Sublist.subset (.cons_cons _ (.cons_cons _ (.cons _ (.cons _ (.cons_cons _ (.cons_cons _ (.refl _))))))))
         refine ⟨hH8090, ?_⟩
         refine d_v (i := 11) rfl (by kernel_rfl) rfl (r_assign (v := .slice _ _ _) rfl) hH8090 ?_
         refine d_end (by kernel_rfl) ?_
         have hS8091 := hS8087.weaken (.cons _ (.cons_cons _ (.cons_cons _ (.cons_cons _ (.cons_cons _ (.cons_cons _ (.refl _)))))))
         exact ⟨_, _, _, _, _, _, _, _, row_n (hS8091.toHeld.own (.there .here)) hrc8088 (by decide), hrc8088, row_n (hS8091.toHeld.own (.there (.there .here))) hrc8084 (by decide), hrc8084, hS8091, rfl, rfl, rfl, rfl, rfl, rfl⟩
        ·cases ho
         refine wl_h hS8082.toHeld (r_slice_hi Try.underlying111 ty110 (a := _) (n := _) (c := _) (h := ((l7437.length : Nat) : Int) - 1) rfl rfl (upto_0 hc8063) (upto_c hc8063 (row_cap (hS8082.toHeld.own (.there (.there .here)))))) ?_
         have hrc8093 := RCs.take hrc7443 (((l7437.length : Nat) : Int) - 1).toNat (by rw [← row_n (hS8082.toHeld.own (.there (.there .here))) hrc7443 (by decide)]; exact upto_n hc8063)
         have hS8092 := hS8082.trunc (k := (((l7437.length : Nat) : Int) - 1).toNat) (upto_n hc8063) (.there (.there .here))
         generalize cs7441.take ((((l7437.length : Nat) : Int) - 1).toNat * 3) = cs8094 at hS8092 hrc8093
         refine wl_nil ?_
         have hH8095 := hS8092.toHeld.mono (Mem.le_refl _) (List.Sublist.subset (.cons_cons _ (.cons_cons _ (.cons _ (.cons _ (.cons_cons _ (.cons_cons _ (.refl _))))))))
         refine ⟨hH8095, ?_⟩
         refine d_all (rs := [4]) (by kernel_rfl) (by simp) (fun j hj o ho => ?_)
         obtain rfl : j = 4 := by simpa using hj
         cases ho
         refine wl_h hS8092.toHeld (r_slice_hi Try.underlying35 ty3 (a := _) (n := _) (c := _) (h := ((l7444.length : Nat) : Int) - 1) rfl rfl (upto_0 hc8058) (upto_c hc8058 (row_cap (hS8092.toHeld.own (.there (.there (.there .here))))))) ?_
         have hrc8097 := RCs.take hrc7450 (((l7444.length : Nat) : Int) - 1).toNat (by rw [← row_n (hS8092.toHeld.own (.there (.there (.there .here)))) hrc7450 (by decide)]; exact upto_n hc8058)
         have hS8096 := hS8092.trunc (k := (((l7444.length : Nat) : Int) - 1).toNat) (upto_n hc8058) (.there (.there (.there .here)))
         generalize cs7448.take ((((l7444.length : Nat) : Int) - 1).toNat * 1) = cs8098 at hS8096 hrc8097
         refine wl_nil ?_
         have hH8099 := hS8096.toHeld.mono (Mem.le_refl _) (List.Sublist.subset (.cons_cons _ (.cons_cons _ (.cons _ (.cons _ (.cons_cons _ (.cons_cons _ (.refl _))))))))
         refine ⟨hH8099, ?_⟩
         refine d_v (i := 10) rfl (by kernel_rfl) rfl (r_assign (v := .slice _ _ _) rfl) hH8099 ?_
         refine d_v (i := 11) rfl (by kernel_rfl) rfl (r_assign (v := .slice _ _ _) rfl) hH8099 ?_
         refine d_end (by kernel_rfl) ?_
         have hS8100 := hS8096.weaken (.cons _ (.cons_cons _ (.cons_cons _ (.cons_cons _ (.cons_cons _ (.cons_cons _ (.refl _)))))))
         exact ⟨_, _, _, _, _, _, _, _, row_n (hS8100.toHeld.own (.there .here)) hrc8093 (by decide), hrc8093, row_n (hS8100.toHeld.own (.there (.there .here))) hrc8097 (by decide), hrc8097, hS8100, rfl, rfl, rfl, rfl, rfl, rfl⟩
       ·rintro f8108 w8109 ⟨a8069, n8070, c8071, cs8072, a8075, n8076, c8077, cs8078, hn8073, hrc8074, hn8079, hrc8080, hS8101, e8102, e8103, e8104, e8105, e8106, e8107⟩
        subst hn8073
        subst hn8079
        refine c_know (t := 2) e8102 <| c_know (t := 8) e8103 <| c_know (t := 9) e8104 <| c_know (t := 12) e8105 <| c_know (t := 13) e8106 ?_
        refine c_know (t := 14) e8107 ?_
        clear e8102 e8103 e8104 e8105 e8106 e8107
        refine c_nil <| q_norm <| c_nil <| q_loop ?_
        exact ⟨k_1, Nat.lt_succ_self _, l7430, (l7437.take (((l7437.length : Nat) : Int) - 1).toNat), (l7444.take (((l7444.length : Nat) : Int) - 1).toNat), l7451, a7431, l7430.length, c7433, cs7434, a8069, ((l7437.take (((l7437.length : Nat) : Int) - 1).toNat)).length, c8071, cs8072, a8075, ((l7444.take (((l7444.length : Nat) : Int) - 1).toNat)).length, c8077, cs8078, a7452, l7451.length, c7454, cs7455, hM, row_n (hS8101.toHeld.own .here) hrc7436 (by decide), hrc7436, row_n (hS8101.toHeld.own (.there .here)) hrc8074 (by decide), hrc8074, row_n (hS8101.toHeld.own (.there (.there .here))) hrc8080 (by decide), hrc8080, row_n (hS8101.toHeld.own (.there (.there (.there .here)))) hrc7457 (by decide), hrc7457, hS8101, rfl, rfl, rfl, rfl, rfl, rfl⟩
    ·replace hM := bif_f h7468 hM
     refine c_exit <| q_loopx <| q_hit <| c_seq <| c_region <| wl_h hS7461.toHeld (r_move (v := .slice _ _ _) rfl) ?_
     obtain ⟨r8110, hq8111, hM⟩ := bnd_ok hM
     refine wl_call ent55 (vals := [.slice _ _ _]) rfl (cg55 hS7461 hrc7436 hq8111) ?_
     rintro _ w8116 ⟨cs8113, rfl, hl8115, hrc8114, hS8117⟩
     refine wl_nil <| c_seq <| c_region <| wl_h hS8117.toHeld (r_move (v := .slice _ _ _) rfl) <| wl_h hS8117.toHeld (r_move (v := .int .i64 _) rfl) ?_
     refine wl_h hS8117.toHeld (r_assign (v := .slice _ _ _) rfl) <| wl_h hS8117.toHeld (r_assign (v := .int .i64 _) rfl) <| wl_h hS8117.toHeld (r_assign (v := .int .i64 _) rfl) <| wl_nil <| c_ret <| q_scoper ?_
     refine ret_many rfl (.tmp (v := .slice _ _ _) rfl (.tmp (v := .int .i64 _) rfl (.tmp (v := .int .i64 _) rfl .nil))) ?_
     obtain rfl := some_eq hM
     have hS8118 := hS8117.weaken (.cons_cons _ (.cons _ (.cons _ (.cons _ (.cons _ (.refl _))))))
     exact ⟨a7431, l7430.length, c7433, cs8113, rfl, row_n (hS8118.toHeld.own .here) hrc8114 (by decide), hrc8114, hS8118⟩

theorem cg27 {m : Mem} {L : List Atom} {w : World}  (hS : St w m L)  {fuel : Nat} {r : Round} (hM : mg27 fuel  = some r) : Calls P0 27 [].toArray w (Ret fun v w' => ∃ (a0 : Option Addr) (n0 : Nat) (c0 : Nat) (cs0 : List Value), v = .agg #[.int .i64 r.corners, .slice a0 n0 c0] ∧ n0 = r.streets.length ∧ RCs 3 RStreet m cs0 r.streets ∧ St w' m (.row (.slice a0 n0 c0) 106 3 cs0 :: L)) := by
 rw [mg27] at hM
 refine enter Try.func27 rfl Try.ntmps27 (Nat.le_of_ble_eq_true rfl) ?_
 refine c_seq <| c_region <| wl_alloc ty73 rfl hS ?_
 intro b1 w2 hS3
 refine wl_nil <| c_seq <| c_region <| wl_h hS3.toHeld (r_build ty106 st106 (ps := [(0, [.int .i64 _]), (1, [.int .i64 _]), (2, [.int .i64 _])]) rfl rfl (cs := [.int .i64 _, .int .i64 _, .int .i64 _]) rfl) <| wl_h hS3.toHeld (r_build ty106 st106 (ps := [(0, [.int .i64 _]), (1, [.int .i64 _]), (2, [.int .i64 _])]) rfl rfl (cs := [.int .i64 _, .int .i64 _, .int .i64 _]) rfl) ?_
 refine wl_h hS3.toHeld (r_build ty106 st106 (ps := [(0, [.int .i64 _]), (1, [.int .i64 _]), (2, [.int .i64 _])]) rfl rfl (cs := [.int .i64 _, .int .i64 _, .int .i64 _]) rfl) <| wl_h hS3.toHeld (r_build ty106 st106 (ps := [(0, [.int .i64 _]), (1, [.int .i64 _]), (2, [.int .i64 _])]) rfl rfl (cs := [.int .i64 _, .int .i64 _, .int .i64 _]) rfl) <| wl_buildSlice Try.underlying71 ty106 rfl (by decide) (by decide) hS3 (ps := [(0, [.int .i64 _, .int .i64 _, .int .i64 _]), (1, [.int .i64 _, .int .i64 _, .int .i64 _]), (2, [.int .i64 _, .int .i64 _, .int .i64 _]), (3, [.int .i64 _, .int .i64 _, .int .i64 _])]) rfl rfl (cs := [.int .i64 _, .int .i64 _, .int .i64 _, .int .i64 _, .int .i64 _, .int .i64 _, .int .i64 _, .int .i64 _, .int .i64 _, .int .i64 _, .int .i64 _, .int .i64 _]) rfl rfl (by decide) ?_
 intro b5 w6 hS7
 have hrc8 : RCs 3 RStreet m [.int .i64 0, .int .i64 1, .int .i64 5, .int .i64 1, .int .i64 2, .int .i64 6, .int .i64 2, .int .i64 0, .int .i64 7, .int .i64 0, .int .i64 1, .int .i64 9] ([(⟨0, 1, 5⟩ : Street), (⟨1, 2, 6⟩ : Street), (⟨2, 0, 7⟩ : Street), (⟨0, 1, 9⟩ : Street)] : List Street) := (RCs.cons (d := [.int .i64 0, .int .i64 1, .int .i64 5]) rfl rfl (RCs.cons (d := [.int .i64 1, .int .i64 2, .int .i64 6]) rfl rfl (RCs.cons (d := [.int .i64 2, .int .i64 0, .int .i64 7]) rfl rfl (RCs.cons (d := [.int .i64 0, .int .i64 1, .int .i64 9]) rfl rfl RCs.nil))))
 refine wl_h hS7.toHeld (r_build ty73 st73 (ps := [(0, [.int .i64 _]), (1, [.slice _ _ _])]) rfl rfl (cs := [.int .i64 _, .slice _ _ _]) rfl) <| wl_store_box ty73 hS7 rfl (v := .agg #[.int .i64 _, .slice _ _ _]) rfl (vs := [.int .i64 _, .slice _ _ _]) rfl rfl rfl (.there .here) (cs' := [.int .i64 _, .slice _ _ _]) rfl rfl ?_
 intro w9 hS10
 refine wl_nil <| c_ret <| ret_many rfl (.cell (v := .agg #[.int .i64 _, .slice _ _ _]) rfl (ty73.run_loadVar (cs := [.int .i64 _, .slice _ _ _]) (box_at (hS10.toHeld.own (.there .here))) rfl) .nil) ?_
 obtain rfl := some_eq hM
 have hS11 := hS10.weaken (.cons_cons _ (.cons _ (.refl _)))
 exact ⟨(some ⟨b5, 0, none⟩), 4, 4, [.int .i64 0, .int .i64 1, .int .i64 5, .int .i64 1, .int .i64 2, .int .i64 6, .int .i64 2, .int .i64 0, .int .i64 7, .int .i64 0, .int .i64 1, .int .i64 9], rfl, row_n (hS11.toHeld.own .here) hrc8 (by decide), hrc8, hS11⟩

theorem cg77 {m : Mem} {L : List Atom} {w : World} {a1 : Option Addr} {n2 c3 : Nat} {s5 : List Bool} {v6 : Bool} (hS : St w m L) (hr4 : RSl 1 RBool m a1 n2 c3 s5) {fuel : Nat} {r : Int} (hM : mg77 fuel s5 v6 = some r) : Calls P0 77 [.slice a1 n2 c3, .bool v6].toArray w (Ret fun v w' => v = .int .i64 r ∧ St w' m (L)) := by
 rw [mg77] at hM
 obtain rfl := hr4.1
 refine enter Try.func77 rfl Try.ntmps77 (Nat.le_of_ble_eq_true rfl) ?_
 refine c_seq <| c_region <| wl_h hS.toHeld (r_assign (v := .int .i64 _) rfl) <| wl_nil <| c_seq <| c_seq <| c_region <| wl_h hS.toHeld (r_move (v := .slice _ _ _) rfl) ?_
 refine wl_h hS.toHeld (r_len Try.underlying113 (a := _) (n := _) (c := _) rfl) <| wl_h hS.toHeld (r_move (v := .int .i64 _) rfl) <| wl_nil <| c_block <| c_loop (fun k f w => ∃ (x20 : Int), mg77_l0 fuel s5 v6 k x20 = some r ∧ St w m (L) ∧ f 0 = .slice a1 s5.length c3 ∧ f 1 = .bool v6 ∧ f 7 = .int .i64 ((s5.length : Nat) : Int) ∧ f 8 = .int .i64 x20) fuel ⟨0, hM, hS, rfl, rfl, rfl, rfl⟩ ?_
 rintro k_0 f21 w22 ⟨x20, hM, hS24, e25, e26, e27, e28⟩
 refine c_know (t := 0) e25 <| c_know (t := 1) e26 <| c_know (t := 7) e27 <| c_know (t := 8) e28 ?_
 clear e25 e26 e27 e28
 rcases k_0 with _ | k_0
 · exact none_ne hM
 rw [mg77_l0] at hM
 refine c_seq <| c_region <| wl_h hS24.toHeld (r_lss (a := _) (b := _) rfl rfl) <| wl_nil <| c_seq <| c_cond (c := _) rfl (fun h29 => ?_) (fun h29 => ?_)
 ·replace hM := bif_t h29 hM
  refine c_skip <| c_seq <| c_block <| c_seq <| c_region <| wl_h hS24.toHeld (r_move (v := .int .i64 _) rfl) ?_
  refine wl_h hS24.toHeld (r_assign (v := .int .i64 _) rfl) <| wl_nil <| c_seq <| c_region <| wl_h hS24.toHeld (r_move (v := .bool _) rfl) ?_
  refine wl_h hS24.toHeld (r_move (v := .slice _ _ _) rfl) <| wl_h hS24.toHeld (r_move (v := .int .i64 _) rfl) ?_
  obtain ⟨x30, hx31, h32, h33, hM⟩ := getK_ok hM
  obtain ⟨b34, o35, rfl⟩ := RSl.elem_a hr4 hx31
  obtain ⟨cs36, hI37, hR38⟩ := RSl.elem_at hr4 hx31
  obtain rfl := hR38
  refine wl_h hS24.toHeld (r_indexAddr Try.underlying113 ty4 (b := _) (o := _) (n := _) (c := _) (i := x20) rfl rfl h32 (RSl.lt hr4 h33)) <| wl_h hS24.toHeld (r_imm ty4 (k := 0) hI37 rfl rfl rfl (v := .bool _) rfl) <| wl_h hS24.toHeld (r_beql Try.underlying4 (a := _) (b := _) rfl rfl) <| wl_nil <| c_cond (c := _) rfl (fun h39 => ?_) (fun h39 => ?_)
  ·replace hM := bif_t h39 hM
   refine c_seq <| c_region <| wl_h hS24.toHeld (r_move (v := .int .i64 _) rfl) <| wl_h hS24.toHeld (r_assign (v := .int .i64 _) rfl) <| wl_nil <| c_ret <| q_retb ?_
   refine q_retl <| q_retb <| ret_tmp (t := 4) rfl (v := .int .i64 _) rfl ?_
   obtain rfl := some_eq hM
   exact ⟨rfl, hS24⟩
  ·replace hM := bif_f h39 hM
   refine c_skip <| c_nil <| q_norm <| c_region ?_
   obtain ⟨hc40, hM⟩ := chk_ok hM
   refine wl_h hS24.toHeld (r_add (a := _) (b := _) rfl rfl (ok_lo hc40) (ok_hi hc40)) <| wl_h hS24.toHeld (r_move (v := .int .i64 _) rfl) <| wl_nil <| c_nil <| q_loop ?_
   exact ⟨k_0, Nat.lt_succ_self _, x20 + 1, hM, hS24, rfl, rfl, rfl, rfl⟩
 ·replace hM := bif_f h29 hM
  refine c_exit <| q_loopx <| q_hit <| c_seq <| c_region <| wl_h hS24.toHeld (r_assign (v := .int .i64 _) rfl) ?_
  refine wl_nil <| c_ret <| ret_tmp (t := 4) rfl (v := .int .i64 _) rfl ?_
  obtain rfl := some_eq hM
  exact ⟨rfl, hS24⟩

theorem cg56 {m : Mem} {L : List Atom} {w : World} {a1 : Option Addr} {n2 c3 : Nat} {s5 : List Bool} {v6 : Bool} (hS : St w m L) (hr4 : RSl 1 RBool m a1 n2 c3 s5) {fuel : Nat} {r : Bool} (hM : mg56 fuel s5 v6 = some r) : Calls P0 56 [.slice a1 n2 c3, .bool v6].toArray w (Ret fun v w' => v = .bool r ∧ St w' m (L)) := by
 rw [mg56] at hM
 obtain rfl := hr4.1
 refine enter Try.func56 rfl Try.ntmps56 (Nat.le_of_ble_eq_true rfl) ?_
 refine c_seq <| c_region <| wl_h hS.toHeld (r_assign (v := .bool _) rfl) <| wl_nil <| c_seq <| c_region <| wl_h hS.toHeld (r_move (v := .slice _ _ _) rfl) ?_
 refine wl_h hS.toHeld (r_move (v := .bool _) rfl) ?_
 obtain ⟨r7, hq8, hM⟩ := bnd_ok hM
 refine wl_call ent77 (vals := [.slice _ _ _, .bool _]) rfl (cg77 hS hr4 hq8) ?_
 rintro _ w10 ⟨rfl, hS11⟩
 refine wl_h hS11.toHeld (r_geq (a := _) (b := _) rfl rfl) <| wl_h hS11.toHeld (r_assign (v := .bool _) rfl) <| wl_nil <| c_ret <| ret_tmp (t := 4) rfl (v := .bool _) rfl ?_
 obtain rfl := some_eq hM
 exact ⟨rfl, hS11⟩

theorem cg28 {m : Mem} {L : List Atom} {w : World} {cs1 : List Value} {r3 : Round} {from9 : Int} {a10 : Option Addr} {n11 c12 : Nat} {walk14 : List Step} (hS : St w m L) (hx2 : RRound m cs1 r3) (hr13 : RSl 2 RStep m a10 n11 c12 walk14) {fuel : Nat} {r : Int × Int} (hM : mg28 fuel r3 from9 walk14 = some r) : Calls P0 28 [.agg cs1.toArray, .int .i64 from9, .slice a10 n11 c12].toArray w (Ret fun v w' => v = .tuple #[.int .i64 r.1, .int .i64 r.2] ∧ St w' m (L)) := by
 rw [mg28] at hM
 have hk8 := hx2
 obtain ⟨a4, n5, c6, rfl, hr7⟩ := hx2
 obtain rfl := hr7.1
 obtain rfl := hr13.1
 refine enter Try.func28 rfl Try.ntmps28 (Nat.le_of_ble_eq_true rfl) ?_
 refine c_seq <| c_region <| wl_box hS (v := .agg #[.int .i64 _, .slice _ _ _]) rfl (cs := [.int .i64 _, .slice _ _ _]) rfl ?_
 intro b15 w16 hS17
 refine wl_h hS17.toHeld (r_assign (v := .int .i64 _) rfl) <| wl_h hS17.toHeld (r_assign (v := .int .i64 _) rfl) <| wl_nil <| c_seq <| c_seq <| c_region <| wl_h hS17.toHeld (r_box ty73 (k := 0) .here rfl rfl rfl (v := .agg #[.int .i64 _, .slice _ _ _]) rfl) ?_
 obtain ⟨r18, hq19, hM⟩ := bnd_ok hM
 refine wl_call ent52 (vals := [.agg #[.int .i64 _, .slice _ _ _]]) rfl (cg52 hS17 hk8 hq19) ?_
 rintro _ w21 ⟨rfl, hS22⟩
 refine wl_h hS22.toHeld (r_assign (v := .int .i64 _) rfl) <| wl_nil <| c_seq <| c_region <| wl_h hS22.toHeld (r_move (v := .int .i64 _) rfl) ?_
 refine wl_h hS22.toHeld (r_neq (a := _) (b := _) rfl rfl) <| wl_nil <| c_cond (c := _) rfl (fun h23 => ?_) (fun h23 => ?_)
 ·replace hM := bif_t h23 hM
  refine c_seq <| c_region <| wl_h hS22.toHeld (r_move (v := .int .i64 _) rfl) <| wl_h hS22.toHeld (r_assign (v := .int .i64 _) rfl) <| wl_h hS22.toHeld (r_assign (v := .int .i64 _) rfl) ?_
  refine wl_nil <| c_ret <| ret_many rfl (.tmp (v := .int .i64 _) rfl (.tmp (v := .int .i64 _) rfl .nil)) ?_
  obtain rfl := some_eq hM
  have hS24 := hS22.weaken (.cons _ (.refl _))
  exact ⟨rfl, hS24⟩
 ·replace hM := bif_f h23 hM
  refine c_skip <| c_seq <| c_block <| c_seq <| c_region <| wl_h hS22.toHeld (r_box ty73 (k := 0) .here rfl rfl rfl (v := .agg #[.int .i64 _, .slice _ _ _]) rfl) ?_
  refine wl_h hS22.toHeld (r_move (v := .int .i64 _) rfl) ?_
  obtain ⟨r25, hq26, hM⟩ := bnd_ok hM
  refine wl_call ent53 (vals := [.agg #[.int .i64 _, .slice _ _ _], .int .i64 _]) rfl (cg53 hS22 hk8 hq26) ?_
  rintro _ w28 ⟨rfl, hS29⟩
  refine wl_h hS29.toHeld (r_not (b := _) rfl) <| wl_h hS29.toHeld (r_assign (v := .bool _) rfl) <| wl_nil <| c_cond (c := _) rfl (fun h30 => ?_) (fun h30 => ?_)
  ·replace hM := bif_t h30 hM
   refine c_seq <| c_region <| wl_h hS29.toHeld (r_assign (v := .int .i64 _) rfl) <| wl_h hS29.toHeld (r_assign (v := .int .i64 _) rfl) <| wl_nil <| c_ret <| q_retb ?_
   refine ret_many rfl (.tmp (v := .int .i64 _) rfl (.tmp (v := .int .i64 _) rfl .nil)) ?_
   obtain rfl := some_eq hM
   have hS31 := hS29.weaken (.cons _ (.refl _))
   exact ⟨rfl, hS31⟩
  ·replace hM := bif_f h30 hM
   refine c_seq <| c_region <| wl_h hS29.toHeld (r_move (v := .slice _ _ _) rfl) <| wl_h hS29.toHeld (r_len Try.underlying68 (a := _) (n := _) (c := _) rfl) <| wl_h hS29.toHeld (r_gtr (a := _) (b := _) rfl rfl) ?_
   refine wl_h hS29.toHeld (r_assign (v := .bool _) rfl) <| wl_nil <| c_cond (c := _) rfl (fun h32 => ?_) (fun h32 => ?_)
   ·replace hM := bif_t h32 hM
    refine c_seq <| c_region <| wl_h hS29.toHeld (r_assign (v := .int .i64 _) rfl) <| wl_h hS29.toHeld (r_assign (v := .int .i64 _) rfl) <| wl_nil <| c_ret <| q_retb ?_
    refine ret_many rfl (.tmp (v := .int .i64 _) rfl (.tmp (v := .int .i64 _) rfl .nil)) ?_
    obtain rfl := some_eq hM
    have hS33 := hS29.weaken (.cons _ (.refl _))
    exact ⟨rfl, hS33⟩
   ·replace hM := bif_f h32 hM
    refine c_skip <| c_nil <| q_norm <| c_seq <| c_region <| wl_h hS29.toHeld (r_move (v := .int .i64 _) rfl) ?_
    refine wl_h hS29.toHeld (r_assign (v := .int .i64 _) rfl) <| wl_h hS29.toHeld (r_assign (v := .int .i64 _) rfl) <| wl_nil <| c_seq <| c_region <| wl_h hS29.toHeld (r_fieldAddr fld73_1 (b := _) (o := _) rfl) ?_
    refine wl_h hS29.toHeld (r_box ty71 (k := 1) .here rfl rfl rfl (v := .slice _ _ _) rfl) <| wl_h hS29.toHeld (r_len Try.underlying71 (a := _) (n := _) (c := _) rfl) ?_
    obtain ⟨hc36, hM⟩ := chk_ok hM
    refine wl_makeSlice Try.underlying113 ty4 rfl (by decide) hS29 (l := _) (c := _) rfl rfl (mk_0 hc36) (mk_1 hc36) (mk_2 hc36 (by decide)) (mk_3 hc36) ?_
    intro b34 w35 hS37
    have hrc39 : RCs 1 RBool m (reps [.bool false] ((r3.streets.length : Nat) : Int).toNat) ((List.replicate ((r3.streets.length : Nat) : Int).toNat false : List Bool) : List Bool) := RCs.reps rfl rfl _
    refine wl_h hS37.toHeld (r_assign (v := .slice _ _ _) rfl) <| wl_nil <| c_seq <| c_seq <| c_region <| wl_h hS37.toHeld (r_move (v := .slice _ _ _) rfl) ?_
    refine wl_h hS37.toHeld (r_len Try.underlying68 (a := _) (n := _) (c := _) rfl) <| wl_h hS37.toHeld (r_move (v := .int .i64 _) rfl) <| wl_nil <| c_block <| c_loop (fun k f w => ∃ (at307 : Int) (length308 : Int) (x309 : Int) (l310 : List Bool) (a311 : Option Addr) (n312 : Nat) (c313 : Nat) (cs314 : List Value), mg28_l0 fuel r3 from9 walk14 k at307 length308 x309 l310 = some r ∧ n312 = l310.length ∧ RCs 1 RBool m cs314 l310 ∧ St w m (.row (.slice a311 n312 c313) 4 1 cs314 :: .box b15 73 [.int .i64 r3.corners, .slice a4 r3.streets.length c6] :: L) ∧ f 1 = .int .i64 from9 ∧ f 3 = .pointer (some ⟨b15, 0, none⟩) ∧ f 9 = .int .i64 at307 ∧ f 10 = .int .i64 length308 ∧ f 11 = .slice a311 n312 c313 ∧ f 36 = .slice a10 walk14.length c12 ∧ f 37 = .int .i64 ((walk14.length : Nat) : Int) ∧ f 38 = .int .i64 x309) fuel ⟨from9, 0, 0, (List.replicate ((r3.streets.length : Nat) : Int).toNat false : List Bool), (some ⟨b34, 0, none⟩), ((r3.streets.length : Nat) : Int).toNat, ((r3.streets.length : Nat) : Int).toNat, reps [.bool false] ((r3.streets.length : Nat) : Int).toNat, hM, row_n (hS37.toHeld.own .here) hrc39 (by decide), hrc39, hS37, rfl, rfl, rfl, rfl, rfl, rfl, rfl, rfl⟩ ?_
    rintro k_0 f317 w318 ⟨at307, length308, x309, l310, a311, n312, c313, cs314, hM, hn315, hrc316, hS320, e321, e322, e323, e324, e325, e326, e327, e328⟩
    subst hn315
    refine c_know (t := 1) e321 <| c_know (t := 3) e322 <| c_know (t := 9) e323 <| c_know (t := 10) e324 <| c_know (t := 11) e325 ?_
    refine c_know (t := 36) e326 <| c_know (t := 37) e327 <| c_know (t := 38) e328 ?_
    clear e321 e322 e323 e324 e325 e326 e327 e328
    rcases k_0 with _ | k_0
    · exact none_ne hM
    rw [mg28_l0] at hM
    refine c_seq <| c_region <| wl_h hS320.toHeld (r_lss (a := _) (b := _) rfl rfl) <| wl_nil <| c_seq <| c_cond (c := _) rfl (fun h329 => ?_) (fun h329 => ?_)
    ·replace hM := bif_t h329 hM
     refine c_skip <| c_seq <| c_block <| c_seq <| c_region ?_
     obtain ⟨x330, hx331, h332, h333, hM⟩ := getK_ok hM
     obtain ⟨b334, o335, rfl⟩ := RSl.elem_a hr13 hx331
     obtain ⟨cs336, hI337, hR338⟩ := RSl.elem_at hr13 hx331
     obtain rfl := hR338
     refine wl_h hS320.toHeld (r_indexAddr Try.underlying68 ty108 (b := _) (o := _) (n := _) (c := _) (i := x309) rfl rfl h332 (RSl.lt hr13 h333)) <| wl_h hS320.toHeld (r_imm ty108 (k := 0) hI337 rfl rfl rfl (v := .agg #[.int .i64 _, .bool _]) rfl) <| wl_alloc ty108 rfl hS320 ?_
     intro b339 w340 hS341
     refine wl_store_box ty108 hS341 rfl (v := .agg #[.int .i64 _, .bool _]) rfl (vs := [.int .i64 _, .bool _]) rfl rfl rfl .here (cs' := [.int .i64 _, .bool _]) rfl rfl ?_
     intro w342 hS343
     refine wl_nil <| c_seq <| c_seq <| c_region <| wl_h hS343.toHeld (r_fieldAddr fld108_0 (b := _) (o := _) rfl) ?_
     refine wl_h hS343.toHeld (r_box ty3 (k := 0) .here rfl rfl rfl (v := .int .i64 _) rfl) <| wl_h hS343.toHeld (r_fieldAddr fld73_1 (b := _) (o := _) rfl) <| wl_h hS343.toHeld (r_box ty71 (k := 1) (.there (.there .here)) rfl rfl rfl (v := .slice _ _ _) rfl) <| wl_h hS343.toHeld (r_len Try.underlying71 (a := _) (n := _) (c := _) rfl) ?_
     obtain ⟨hc344, hM⟩ := chk_ok hM
     refine wl_h hS343.toHeld (r_sub (a := _) (b := _) rfl rfl (ok_lo hc344) (ok_hi hc344)) ?_
     obtain ⟨r345, hq346, hM⟩ := bnd_ok hM
     refine wl_call ent33 (vals := [.int .i64 _, .int .i64 _, .int .i64 _]) rfl (cg33 hS343 hq346) ?_
     rintro _ w348 ⟨rfl, hS349⟩
     refine wl_h hS349.toHeld (r_not (b := _) rfl) <| wl_nil <| c_cond (c := _) rfl (fun h350 => ?_) (fun h350 => ?_)
     ·replace hM := bif_t h350 hM
      refine c_seq <| c_region <| wl_h hS349.toHeld (r_assign (v := .int .i64 _) rfl) <| wl_h hS349.toHeld (r_assign (v := .int .i64 _) rfl) <| wl_nil <| c_ret <| q_retb ?_
      refine q_retl <| q_retb <| ret_many rfl (.tmp (v := .int .i64 _) rfl (.tmp (v := .int .i64 _) rfl .nil)) ?_
      obtain rfl := some_eq hM
      have hS351 := hS349.weaken (.cons _ (.cons _ (.cons _ (.refl _))))
      exact ⟨rfl, hS351⟩
     ·replace hM := bif_f h350 hM
      refine c_skip <| c_seq <| c_region <| wl_h hS349.toHeld (r_fieldAddr fld73_1 (b := _) (o := _) rfl) <| wl_h hS349.toHeld (r_box ty71 (k := 1) (.there (.there .here)) rfl rfl rfl (v := .slice _ _ _) rfl) ?_
      refine wl_h hS349.toHeld (r_fieldAddr fld108_0 (b := _) (o := _) rfl) <| wl_h hS349.toHeld (r_box ty3 (k := 0) .here rfl rfl rfl (v := .int .i64 _) rfl) ?_
      obtain ⟨x352, hx353, h354, h355, hM⟩ := getK_ok hM
      obtain ⟨b356, o357, rfl⟩ := RSl.elem_a hr7 hx353
      obtain ⟨cs358, hI359, hR360⟩ := RSl.elem_at hr7 hx353
      obtain rfl := hR360
      refine wl_h hS349.toHeld (r_indexAddr Try.underlying71 ty106 (b := _) (o := _) (n := _) (c := _) (i := x330.street) rfl rfl h354 (RSl.lt hr7 h355)) <| wl_h hS349.toHeld (r_imm ty106 (k := 0) hI359 rfl rfl rfl (v := .agg #[.int .i64 _, .int .i64 _, .int .i64 _]) rfl) <| wl_alloc ty106 rfl hS349 ?_
      intro b361 w362 hS363
      refine wl_store_box ty106 hS363 rfl (v := .agg #[.int .i64 _, .int .i64 _, .int .i64 _]) rfl (vs := [.int .i64 _, .int .i64 _, .int .i64 _]) rfl rfl rfl .here (cs' := [.int .i64 _, .int .i64 _, .int .i64 _]) rfl rfl ?_
      intro w364 hS365
      refine wl_nil <| c_seq ?_
      have hH368 := (hS365.weaken (.cons_cons _ (.cons_cons _ (.cons_cons _ (.cons_cons _ (.refl _)))))).toHeld
      refine c_draw (k := 6) (fun w => Held w m (.box b361 106 [.int .i64 x352.a, .int .i64 x352.b, .int .i64 x352.length] :: .box b339 108 [.int .i64 x330.street, .bool x330.back] :: .row (.slice a311 l310.length c313) 4 1 cs314 :: .box b15 73 [.int .i64 r3.corners, .slice (some ⟨b356, o357, none⟩) r3.streets.length c6] :: L)) mixed rfl ?_
      replace hH368 := hH368.drew1
      have hS369 := hS365.drew1
      refine d_v (i := 0) rfl (by kernel_rfl) rfl (r_fieldAddr fld106_0 (b := _) (o := _) rfl) hH368 ?_
      refine d_v (i := 1) rfl (by kernel_rfl) rfl (r_box ty3 (k := 0) .here rfl rfl rfl (v := .int .i64 _) rfl) hH368 ?_
      refine d_v (i := 2) rfl (by kernel_rfl) rfl (r_fieldAddr fld106_1 (b := _) (o := _) rfl) hH368 ?_
      refine d_v (i := 3) rfl (by kernel_rfl) rfl (r_box ty3 (k := 1) .here rfl rfl rfl (v := .int .i64 _) rfl) hH368 ?_
      refine d_v (i := 4) rfl (by kernel_rfl) rfl (r_assign (v := .int .i64 _) rfl) hH368 ?_
      refine d_v (i := 5) rfl (by kernel_rfl) rfl (r_assign (v := .int .i64 _) rfl) hH368 ?_
      refine d_end (by kernel_rfl) ?_
      refine c_seq <| c_seq <| c_region <| wl_h hS369.toHeld (r_fieldAddr fld108_1 (b := _) (o := _) rfl) <| wl_h hS369.toHeld (r_box ty4 (k := 1) (.there .here) rfl rfl rfl (v := .bool _) rfl) ?_
      refine wl_nil <| c_cond (c := _) rfl (fun h370 => ?_) (fun h370 => ?_)
      ·replace hM := bif_t h370 hM
       refine c_region <| wl_h hS369.toHeld (r_move (v := .int .i64 _) rfl) <| wl_h hS369.toHeld (r_move (v := .int .i64 _) rfl) <| wl_h hS369.toHeld (r_assign (v := .int .i64 _) rfl) <| wl_h hS369.toHeld (r_assign (v := .int .i64 _) rfl) ?_
       refine wl_nil <| c_seq <| c_seq <| c_region <| wl_h hS369.toHeld (r_move (v := .int .i64 _) rfl) ?_
       refine wl_h hS369.toHeld (r_move (v := .int .i64 _) rfl) <| wl_h hS369.toHeld (r_neq (a := _) (b := _) rfl rfl) <| wl_nil <| c_cond (c := _) rfl (fun h371 => ?_) (fun h371 => ?_)
       ·replace hM := bif_t h371 hM
        refine c_seq <| c_region <| wl_h hS369.toHeld (r_assign (v := .int .i64 _) rfl) <| wl_h hS369.toHeld (r_assign (v := .int .i64 _) rfl) <| wl_nil <| c_ret <| q_retb ?_
        refine q_retl <| q_retb <| ret_many rfl (.tmp (v := .int .i64 _) rfl (.tmp (v := .int .i64 _) rfl .nil)) ?_
        obtain rfl := some_eq hM
        have hS372 := hS369.weaken (.cons _ (.cons _ (.cons _ (.cons _ (.refl _)))))
        exact ⟨rfl, hS372⟩
       ·replace hM := bif_f h371 hM
        refine c_skip ?_
        have hH389 := (hS369.weaken (.cons_cons _ (.cons_cons _ (.cons _ (.cons_cons _ (.refl _)))))).toHeld
        refine c_draw (k := 12) (fun w => Held w m (.box b361 106 [.int .i64 x352.a, .int .i64 x352.b, .int .i64 x352.length] :: .box b339 108 [.int .i64 x330.street, .bool x330.back] :: .box b15 73 [.int .i64 r3.corners, .slice (some ⟨b356, o357, none⟩) r3.streets.length c6] :: L)) mixed rfl ?_
        replace hH389 := hH389.drew1
        have hS390 := hS369.drew1
        refine d_v (i := 0) rfl (by kernel_rfl) rfl (r_move (v := .slice _ _ _) rfl) hH389 ?_
        refine d_v (i := 1) rfl (by kernel_rfl) rfl (r_fieldAddr fld108_0 (b := _) (o := _) rfl) hH389 ?_
        refine d_v (i := 2) rfl (by kernel_rfl) rfl (r_box ty3 (k := 0) (.there .here) rfl rfl rfl (v := .int .i64 _) rfl) hH389 ?_
        refine d_v (i := 3) rfl (by kernel_rfl) rfl (r_move (v := .int .i64 _) rfl) hH389 ?_
        refine d_v (i := 4) rfl (by kernel_rfl) rfl (r_move (v := .int .i64 _) rfl) hH389 ?_
        refine d_v (i := 5) rfl (by kernel_rfl) rfl (r_fieldAddr fld106_2 (b := _) (o := _) rfl) hH389 ?_
        refine d_v (i := 6) rfl (by kernel_rfl) rfl (r_box ty3 (k := 2) .here rfl rfl rfl (v := .int .i64 _) rfl) hH389 ?_
        obtain ⟨hc391, hM⟩ := chk_ok hM
        refine d_v (i := 7) rfl (by kernel_rfl) rfl (r_add (a := _) (b := _) rfl rfl (ok_lo hc391) (ok_hi hc391)) hH389 ?_
        refine d_v (i := 8) rfl (by kernel_rfl) rfl (r_assign (v := .int .i64 _) rfl) hH389 ?_
        refine d_v (i := 9) rfl (by kernel_rfl) rfl (r_assign (v := .int .i64 _) rfl) hH389 ?_
        obtain ⟨x392, hx393, h394, h395, hM⟩ := getK_ok hM
        obtain ⟨b396, rfl⟩ := row_some (hS390.toHeld.own (.there (.there .here))) hrc316 (by decide) h394 h395
        obtain ⟨es397, hes398, hR399⟩ := row_read hrc316 hx393
        obtain rfl := hR399
        refine d_v (i := 10) rfl (by kernel_rfl) rfl (r_indexAddr Try.underlying113 ty4 (b := _) (o := _) (n := _) (c := _) (i := x330.street) rfl rfl h394 (row_lt (hS390.toHeld.own (.there (.there .here))) hrc316 (by decide) h395)) hH389 ?_
        refine d_all (rs := [11]) (by kernel_rfl) (by simp) (fun j hj o ho => ?_)
        obtain rfl : j = 11 := by simpa using hj
        cases ho
        refine wl_store_row ty4 hS390 rfl (v := .bool _) rfl (vs := [.bool _]) rfl rfl rfl (.there (.there .here)) (Nat.le_trans (by simp only [Nat.zero_add]; omega) (row_room hrc316 hx393)) ?_
        intro w400 hS401
        have hrc402 := RCs.seti hrc316 hx393 (vs := [.bool true]) (y := true) rfl rfl
        generalize spl cs314 (0 + x330.street.toNat * 1) [.bool true] = cs403 at hS401 hrc402
        refine wl_nil ?_
        have hH404 := hS401.toHeld.mono (Mem.le_refl _) (List.Sublist.subset (.cons_cons _ (.cons_cons _ (.cons _ (.cons_cons _ (.refl _))))))
        refine ⟨hH404, ?_⟩
        refine d_end (by kernel_rfl) ?_
        refine c_nil <| q_norm <| c_region ?_
        obtain ⟨hc405, hM⟩ := chk_ok hM
        refine wl_h hS401.toHeld (r_add (a := _) (b := _) rfl rfl (ok_lo hc405) (ok_hi hc405)) <| wl_h hS401.toHeld (r_move (v := .int .i64 _) rfl) <| wl_nil <| c_nil <| q_loop ?_
        have hS406 := hS401.weaken (.cons _ (.cons _ (.cons_cons _ (.cons_cons _ (.refl _)))))
        exact ⟨k_0, Nat.lt_succ_self _, x352.a, length308 + x352.length, x309 + 1, (l310.set x330.street.toNat true), (some ⟨b396, 0, none⟩), l310.length, c313, cs403, hM, row_n (hS406.toHeld.own .here) hrc402 (by decide), hrc402, hS406, rfl, rfl, rfl, rfl, rfl, rfl, rfl, rfl⟩
      ·replace hM := bif_f h370 hM
       refine c_skip <| c_seq <| c_seq <| c_region <| wl_h hS369.toHeld (r_move (v := .int .i64 _) rfl) ?_
       refine wl_h hS369.toHeld (r_move (v := .int .i64 _) rfl) <| wl_h hS369.toHeld (r_neq (a := _) (b := _) rfl rfl) <| wl_nil <| c_cond (c := _) rfl (fun h407 => ?_) (fun h407 => ?_)
       ·replace hM := bif_t h407 hM
        refine c_seq <| c_region <| wl_h hS369.toHeld (r_assign (v := .int .i64 _) rfl) <| wl_h hS369.toHeld (r_assign (v := .int .i64 _) rfl) <| wl_nil <| c_ret <| q_retb ?_
        refine q_retl <| q_retb <| ret_many rfl (.tmp (v := .int .i64 _) rfl (.tmp (v := .int .i64 _) rfl .nil)) ?_
        obtain rfl := some_eq hM
        have hS408 := hS369.weaken (.cons _ (.cons _ (.cons _ (.cons _ (.refl _)))))
        exact ⟨rfl, hS408⟩
       ·replace hM := bif_f h407 hM
        refine c_skip ?_
        have hH425 := (hS369.weaken (.cons_cons _ (.cons_cons _ (.cons _ (.cons_cons _ (.refl _)))))).toHeld
        refine c_draw (k := 12) (fun w => Held w m (.box b361 106 [.int .i64 x352.a, .int .i64 x352.b, .int .i64 x352.length] :: .box b339 108 [.int .i64 x330.street, .bool x330.back] :: .box b15 73 [.int .i64 r3.corners, .slice (some ⟨b356, o357, none⟩) r3.streets.length c6] :: L)) mixed rfl ?_
        replace hH425 := hH425.drew1
        have hS426 := hS369.drew1
        refine d_v (i := 0) rfl (by kernel_rfl) rfl (r_move (v := .slice _ _ _) rfl) hH425 ?_
        refine d_v (i := 1) rfl (by kernel_rfl) rfl (r_fieldAddr fld108_0 (b := _) (o := _) rfl) hH425 ?_
        refine d_v (i := 2) rfl (by kernel_rfl) rfl (r_box ty3 (k := 0) (.there .here) rfl rfl rfl (v := .int .i64 _) rfl) hH425 ?_
        refine d_v (i := 3) rfl (by kernel_rfl) rfl (r_move (v := .int .i64 _) rfl) hH425 ?_
        refine d_v (i := 4) rfl (by kernel_rfl) rfl (r_move (v := .int .i64 _) rfl) hH425 ?_
        refine d_v (i := 5) rfl (by kernel_rfl) rfl (r_fieldAddr fld106_2 (b := _) (o := _) rfl) hH425 ?_
        refine d_v (i := 6) rfl (by kernel_rfl) rfl (r_box ty3 (k := 2) .here rfl rfl rfl (v := .int .i64 _) rfl) hH425 ?_
        obtain ⟨hc427, hM⟩ := chk_ok hM
        refine d_v (i := 7) rfl (by kernel_rfl) rfl (r_add (a := _) (b := _) rfl rfl (ok_lo hc427) (ok_hi hc427)) hH425 ?_
        refine d_v (i := 8) rfl (by kernel_rfl) rfl (r_assign (v := .int .i64 _) rfl) hH425 ?_
        refine d_v (i := 9) rfl (by kernel_rfl) rfl (r_assign (v := .int .i64 _) rfl) hH425 ?_
        obtain ⟨x428, hx429, h430, h431, hM⟩ := getK_ok hM
        obtain ⟨b432, rfl⟩ := row_some (hS426.toHeld.own (.there (.there .here))) hrc316 (by decide) h430 h431
        obtain ⟨es433, hes434, hR435⟩ := row_read hrc316 hx429
        obtain rfl := hR435
        refine d_v (i := 10) rfl (by kernel_rfl) rfl (r_indexAddr Try.underlying113 ty4 (b := _) (o := _) (n := _) (c := _) (i := x330.street) rfl rfl h430 (row_lt (hS426.toHeld.own (.there (.there .here))) hrc316 (by decide) h431)) hH425 ?_
        refine d_all (rs := [11]) (by kernel_rfl) (by simp) (fun j hj o ho => ?_)
        obtain rfl : j = 11 := by simpa using hj
        cases ho
        refine wl_store_row ty4 hS426 rfl (v := .bool _) rfl (vs := [.bool _]) rfl rfl rfl (.there (.there .here)) (Nat.le_trans (by simp only [Nat.zero_add]; omega) (row_room hrc316 hx429)) ?_
        intro w436 hS437
        have hrc438 := RCs.seti hrc316 hx429 (vs := [.bool true]) (y := true) rfl rfl
        generalize spl cs314 (0 + x330.street.toNat * 1) [.bool true] = cs439 at hS437 hrc438
        refine wl_nil ?_
        have hH440 := hS437.toHeld.mono (Mem.le_refl _) (List.Sublist.subset (.cons_cons _ (.cons_cons _ (.cons _ (.cons_cons _ (.refl _))))))
        refine ⟨hH440, ?_⟩
        refine d_end (by kernel_rfl) ?_
        refine c_nil <| q_norm <| c_region ?_
        obtain ⟨hc441, hM⟩ := chk_ok hM
        refine wl_h hS437.toHeld (r_add (a := _) (b := _) rfl rfl (ok_lo hc441) (ok_hi hc441)) <| wl_h hS437.toHeld (r_move (v := .int .i64 _) rfl) <| wl_nil <| c_nil <| q_loop ?_
        have hS442 := hS437.weaken (.cons _ (.cons _ (.cons_cons _ (.cons_cons _ (.refl _)))))
        exact ⟨k_0, Nat.lt_succ_self _, x352.b, length308 + x352.length, x309 + 1, (l310.set x330.street.toNat true), (some ⟨b432, 0, none⟩), l310.length, c313, cs439, hM, row_n (hS442.toHeld.own .here) hrc438 (by decide), hrc438, hS442, rfl, rfl, rfl, rfl, rfl, rfl, rfl, rfl⟩
    ·replace hM := bif_f h329 hM
     refine c_exit <| q_loopx <| q_hit <| c_seq <| c_seq <| c_region <| wl_h hS320.toHeld (r_move (v := .int .i64 _) rfl) ?_
     refine wl_h hS320.toHeld (r_move (v := .int .i64 _) rfl) <| wl_h hS320.toHeld (r_neq (a := _) (b := _) rfl rfl) <| wl_h hS320.toHeld (r_move (v := .bool _) rfl) <| wl_split rfl (c := _) (t := 80) (fun h443 => ?_) (fun h443 => ?_)
     ·replace hM := bif_t h443 hM
      refine wl_off (t := 80) (b := true) rfl rfl rfl ?_
      refine wl_off (t := 80) (b := true) rfl rfl rfl ?_
      refine wl_h hS320.toHeld (r_pick_t rfl (v := .bool _) rfl) <| wl_nil <| c_true rfl <| c_seq <| c_region <| wl_h hS320.toHeld (r_assign (v := .int .i64 _) rfl) ?_
      refine wl_h hS320.toHeld (r_assign (v := .int .i64 _) rfl) <| wl_nil <| c_ret <| ret_many rfl (.tmp (v := .int .i64 _) rfl (.tmp (v := .int .i64 _) rfl .nil)) ?_
      obtain rfl := some_eq hM
      have hS444 := hS320.weaken (.cons _ (.cons _ (.refl _)))
      exact ⟨rfl, hS444⟩
     ·replace hM := bif_f h443 hM
      refine wl_on (t := 80) rfl rfl ?_
      refine wl_h hS320.toHeld (r_move (v := .slice _ _ _) rfl) <| wl_on (t := 80) rfl rfl ?_
      obtain ⟨m445, hm446, hS447, hr448, back449⟩ := hS320.lend .here hrc316 RBool.mono (by decide)
      have le450 := hm446
      obtain ⟨r451, hq452, hM⟩ := bnd_ok hM
      refine wl_call ent56 (vals := [.slice _ _ _, .bool _]) rfl (cg56 hS447 hr448 hq452) ?_
      rintro _ w454 ⟨rfl, hS455⟩
      have hS456 := back449 _ _ hS455
      refine wl_h hS456.toHeld (r_pick_f rfl (v := .bool _) rfl) <| wl_nil <| c_cond (c := _) rfl (fun h457 => ?_) (fun h457 => ?_)
      ·replace hM := bif_t h457 hM
       refine c_seq <| c_region <| wl_h hS456.toHeld (r_assign (v := .int .i64 _) rfl) <| wl_h hS456.toHeld (r_assign (v := .int .i64 _) rfl) <| wl_nil <| c_ret <| ret_many rfl (.tmp (v := .int .i64 _) rfl (.tmp (v := .int .i64 _) rfl .nil)) ?_
       obtain rfl := some_eq hM
       have hS458 := hS456.weaken (.cons _ (.cons _ (.refl _)))
       exact ⟨rfl, hS458⟩
      ·replace hM := bif_f h457 hM
       refine c_skip <| c_seq <| c_region <| wl_h hS456.toHeld (r_move (v := .int .i64 _) rfl) <| wl_h hS456.toHeld (r_assign (v := .int .i64 _) rfl) ?_
       refine wl_h hS456.toHeld (r_assign (v := .int .i64 _) rfl) <| wl_nil <| c_ret <| ret_many rfl (.tmp (v := .int .i64 _) rfl (.tmp (v := .int .i64 _) rfl .nil)) ?_
       obtain rfl := some_eq hM
       have hS459 := hS456.weaken (.cons _ (.cons _ (.refl _)))
       exact ⟨rfl, hS459⟩

theorem cg29 {m : Mem} {L : List Atom} {w : World} {a1 : Option Addr} {n2 c3 : Nat} {s15 : List Int} {a6 : Option Addr} {n7 c8 : Nat} {s210 : List Int} (hS : St w m L) (hr4 : RSl 1 RInt m a1 n2 c3 s15) (hr9 : RSl 1 RInt m a6 n7 c8 s210) {fuel : Nat} {r : Bool} (hM : mg29 fuel s15 s210 = some r) : Calls P0 29 [.slice a1 n2 c3, .slice a6 n7 c8].toArray w (Ret fun v w' => v = .bool r ∧ St w' m (L)) := by
 rw [mg29] at hM
 obtain rfl := hr4.1
 obtain rfl := hr9.1
 refine enter Try.func29 rfl Try.ntmps29 (Nat.le_of_ble_eq_true rfl) ?_
 refine c_seq <| c_region <| wl_h hS.toHeld (r_assign (v := .bool _) rfl) <| wl_nil <| c_seq <| c_seq <| c_region <| wl_h hS.toHeld (r_move (v := .slice _ _ _) rfl) ?_
 refine wl_h hS.toHeld (r_len Try.underlying35 (a := _) (n := _) (c := _) rfl) <| wl_h hS.toHeld (r_move (v := .slice _ _ _) rfl) <| wl_h hS.toHeld (r_len Try.underlying35 (a := _) (n := _) (c := _) rfl) <| wl_h hS.toHeld (r_neq (a := _) (b := _) rfl rfl) <| wl_nil <| c_cond (c := _) rfl (fun h11 => ?_) (fun h11 => ?_)
 ·replace hM := bif_t h11 hM
  refine c_seq <| c_region <| wl_h hS.toHeld (r_assign (v := .bool _) rfl) <| wl_nil <| c_ret <| ret_tmp (t := 4) rfl (v := .bool _) rfl ?_
  obtain rfl := some_eq hM
  exact ⟨rfl, hS⟩
 ·replace hM := bif_f h11 hM
  refine c_skip <| c_seq <| c_seq <| c_region <| wl_h hS.toHeld (r_move (v := .slice _ _ _) rfl) ?_
  refine wl_h hS.toHeld (r_len Try.underlying35 (a := _) (n := _) (c := _) rfl) <| wl_h hS.toHeld (r_move (v := .int .i64 _) rfl) <| wl_nil <| c_block <| c_loop (fun k f w => ∃ (x56 : Int), mg29_l0 fuel s15 s210 k x56 = some r ∧ St w m (L) ∧ f 0 = .slice a1 s15.length c3 ∧ f 1 = .slice a6 s210.length c8 ∧ f 12 = .int .i64 ((s15.length : Nat) : Int) ∧ f 13 = .int .i64 x56) fuel ⟨0, hM, hS, rfl, rfl, rfl, rfl⟩ ?_
  rintro k_0 f57 w58 ⟨x56, hM, hS60, e61, e62, e63, e64⟩
  refine c_know (t := 0) e61 <| c_know (t := 1) e62 <| c_know (t := 12) e63 <| c_know (t := 13) e64 ?_
  clear e61 e62 e63 e64
  rcases k_0 with _ | k_0
  · exact none_ne hM
  rw [mg29_l0] at hM
  refine c_seq <| c_region <| wl_h hS60.toHeld (r_lss (a := _) (b := _) rfl rfl) <| wl_nil <| c_seq <| c_cond (c := _) rfl (fun h65 => ?_) (fun h65 => ?_)
  ·replace hM := bif_t h65 hM
   refine c_skip <| c_seq <| c_block <| c_seq <| c_region <| wl_h hS60.toHeld (r_move (v := .int .i64 _) rfl) ?_
   refine wl_h hS60.toHeld (r_assign (v := .int .i64 _) rfl) <| wl_nil <| c_seq ?_
   have hH86 := (hS60.weaken (.refl _)).toHeld
   refine c_draw (k := 9) (fun w => Held w m (L)) mixed rfl ?_
   replace hH86 := hH86.drew1
   have hS87 := hS60.drew1
   refine d_v (i := 0) rfl (by kernel_rfl) rfl (r_move (v := .slice _ _ _) rfl) hH86 ?_
   refine d_v (i := 1) rfl (by kernel_rfl) rfl (r_move (v := .int .i64 _) rfl) hH86 ?_
   obtain ⟨x88, hx89, h90, h91, hM⟩ := getK_ok hM
   obtain ⟨b92, o93, rfl⟩ := RSl.elem_a hr4 hx89
   obtain ⟨cs94, hI95, hR96⟩ := RSl.elem_at hr4 hx89
   obtain rfl := hR96
   refine d_v (i := 2) rfl (by kernel_rfl) rfl (r_indexAddr Try.underlying35 ty3 (b := _) (o := _) (n := _) (c := _) (i := x56) rfl rfl h90 (RSl.lt hr4 h91)) hH86 ?_
   refine d_v (i := 3) rfl (by kernel_rfl) rfl (r_imm ty3 (k := 0) hI95 rfl rfl rfl (v := .int .i64 _) rfl) hH86 ?_
   refine d_v (i := 4) rfl (by kernel_rfl) rfl (r_move (v := .slice _ _ _) rfl) hH86 ?_
   refine d_v (i := 5) rfl (by kernel_rfl) rfl (r_move (v := .int .i64 _) rfl) hH86 ?_
   obtain ⟨x97, hx98, h99, h100, hM⟩ := getK_ok hM
   obtain ⟨b101, o102, rfl⟩ := RSl.elem_a hr9 hx98
   obtain ⟨cs103, hI104, hR105⟩ := RSl.elem_at hr9 hx98
   obtain rfl := hR105
   refine d_v (i := 6) rfl (by kernel_rfl) rfl (r_indexAddr Try.underlying35 ty3 (b := _) (o := _) (n := _) (c := _) (i := x56) rfl rfl h99 (RSl.lt hr9 h100)) hH86 ?_
   refine d_v (i := 7) rfl (by kernel_rfl) rfl (r_imm ty3 (k := 0) hI104 rfl rfl rfl (v := .int .i64 _) rfl) hH86 ?_
   refine d_v (i := 8) rfl (by kernel_rfl) rfl (r_neq (a := _) (b := _) rfl rfl) hH86 ?_
   refine d_end (by kernel_rfl) ?_
   refine c_cond (c := _) rfl (fun h106 => ?_) (fun h106 => ?_)
   ·replace hM := bif_t h106 hM
    refine c_seq <| c_region <| wl_h hS87.toHeld (r_assign (v := .bool _) rfl) <| wl_nil <| c_ret <| q_retb ?_
    refine q_retl <| q_retb <| ret_tmp (t := 4) rfl (v := .bool _) rfl ?_
    obtain rfl := some_eq hM
    exact ⟨rfl, hS87⟩
   ·replace hM := bif_f h106 hM
    refine c_skip <| c_nil <| q_norm <| c_region ?_
    obtain ⟨hc107, hM⟩ := chk_ok hM
    refine wl_h hS87.toHeld (r_add (a := _) (b := _) rfl rfl (ok_lo hc107) (ok_hi hc107)) <| wl_h hS87.toHeld (r_move (v := .int .i64 _) rfl) <| wl_nil <| c_nil <| q_loop ?_
    exact ⟨k_0, Nat.lt_succ_self _, x56 + 1, hM, hS87, rfl, rfl, rfl, rfl⟩
  ·replace hM := bif_f h65 hM
   refine c_exit <| q_loopx <| q_hit <| c_seq <| c_region <| wl_h hS60.toHeld (r_assign (v := .bool _) rfl) ?_
   refine wl_nil <| c_ret <| ret_tmp (t := 4) rfl (v := .bool _) rfl ?_
   obtain rfl := some_eq hM
   exact ⟨rfl, hS60⟩

theorem cg11 {m : Mem} {L : List Atom} {w : World}  (hS : St w m L)  {fuel : Nat} {r : Bool} (hM : mg11 fuel  = some r) : Calls P0 11 [].toArray w (Ret fun v w' => v = .bool r ∧ St w' m (L)) := by
 rw [mg11] at hM
 refine enter Try.func11 rfl Try.ntmps11 (Nat.le_of_ble_eq_true rfl) ?_
 refine c_seq <| c_region <| wl_h hS.toHeld (r_assign (v := .bool _) rfl) <| wl_nil <| c_seq <| c_region ?_
 obtain ⟨r1, hq2, hM⟩ := bnd_ok hM
 refine wl_call ent25 (vals := []) rfl (cg25 hS hq2) ?_
 rintro _ w17 ⟨m3, a5, n6, c7, cs8, a11, n12, c13, cs14, rfl, hm4, rfl, hrc9, rfl, hrc15, hS18⟩
 have le19 := hm4
 refine wl_buildSlice Try.underlying35 ty3 rfl (by decide) (by decide) hS18 (ps := [(0, [.int .i64 _]), (1, [.int .i64 _])]) rfl rfl (cs := [.int .i64 _, .int .i64 _]) rfl rfl (by decide) ?_
 intro b21 w22 hS23
 have hrc24 : RCs 1 RInt m3 [.int .i64 0, .int .i64 1] ([0, 1] : List Int) := (RCs.cons (d := [.int .i64 0]) rfl rfl (RCs.cons (d := [.int .i64 1]) rfl rfl RCs.nil))
 obtain ⟨m25, hm26, hS27, hr28, back29⟩ := hS23.lend (.there .here) hrc9 RStop.mono (by decide)
 have le30 := hm26
 have hrc31 := RCs.mono RInt.mono hrc24 hm26
 have hrc32 := RCs.mono (RS.mono RInt.mono) hrc15 hm26
 obtain ⟨m33, hm34, hS35, hr36, back37⟩ := hS27.lend (.there .here) hrc32 (RS.mono RInt.mono) (by decide)
 have le38 := Mem.le_trans le30 hm34
 have hr39 := RSl.mono RStop.mono hr28 hm34
 have hrc40 := RCs.mono RInt.mono hrc31 hm34
 obtain ⟨m41, hm42, hS43, hr44, back45⟩ := hS35.lend .here hrc40 RInt.mono (by decide)
 have le46 := Mem.le_trans le38 hm42
 have hr47 := RSl.mono RStop.mono hr39 hm42
 have hr48 := RSl.mono (RS.mono RInt.mono) hr36 hm42
 obtain ⟨r49, hq50, hM⟩ := bnd_ok hM
 refine wl_call ent10 (vals := [.agg #[.slice _ _ _, .slice _ _ _, .int .i64 _, .int .i64 _, .int .i64 _], .slice _ _ _]) rfl (cg10 hS43 ⟨_, _, _, _, _, _, rfl, hr47, hr48⟩ hr44 hq50) ?_
 rintro _ w64 ⟨a52, n53, c54, cs55, a58, n59, c60, cs61, rfl, rfl, hrc56, rfl, hrc62, hS65⟩
 have hS66 := back45 _ _ hS65
 have hS67 := back37 _ _ hS66
 have hS68 := back29 _ _ hS67
 have hrc69 := RCs.move (m' := m3) RInt.any hrc56
 have hrc70 := RCs.move (m' := m3) RInt.any hrc62
 refine wl_h hS68.toHeld (r_move (v := .tuple #[.agg #[.slice _ _ _, .int .i64 _, .int .i64 _], .slice _ _ _, .int .i64 _]) rfl) <| wl_h hS68.toHeld (r_extract (vs := [.agg #[.slice _ _ _, .int .i64 _, .int .i64 _], .slice _ _ _, .int .i64 _]) rfl (v := .agg #[.slice _ _ _, .int .i64 _, .int .i64 _]) rfl) <| wl_h hS68.toHeld (r_extract (vs := [.agg #[.slice _ _ _, .int .i64 _, .int .i64 _], .slice _ _ _, .int .i64 _]) rfl (v := .slice _ _ _) rfl) <| wl_h hS68.toHeld (r_extract (vs := [.agg #[.slice _ _ _, .int .i64 _, .int .i64 _], .slice _ _ _, .int .i64 _]) rfl (v := .int .i64 _) rfl) <| wl_alloc ty42 rfl hS68 ?_
 intro b71 w72 hS73
 refine wl_store_box ty42 hS73 rfl (v := .agg #[.slice _ _ _, .int .i64 _, .int .i64 _]) rfl (vs := [.slice _ _ _, .int .i64 _, .int .i64 _]) rfl rfl rfl .here (cs' := [.slice _ _ _, .int .i64 _, .int .i64 _]) rfl rfl ?_
 intro w74 hS75
 refine wl_h hS75.toHeld (r_assign (v := .slice _ _ _) rfl) <| wl_h hS75.toHeld (r_assign (v := .int .i64 _) rfl) <| wl_nil <| c_seq <| c_region ?_
 obtain ⟨r76, hq77, hM⟩ := bnd_ok hM
 refine wl_call ent25 (vals := []) rfl (cg25 hS75 hq77) ?_
 rintro _ w92 ⟨m78, a80, n81, c82, cs83, a86, n87, c88, cs89, rfl, hm79, rfl, hrc84, rfl, hrc90, hS93⟩
 have le94 := Mem.le_trans le19 hm79
 replace hrc9 := RCs.mono RStop.mono hrc9 hm79
 replace hrc15 := RCs.mono (RS.mono RInt.mono) hrc15 hm79
 replace hrc24 := RCs.mono RInt.mono hrc24 hm79
 replace hrc69 := RCs.mono RInt.mono hrc69 hm79
 replace hrc70 := RCs.mono RInt.mono hrc70 hm79
 obtain ⟨m95, hm96, hS97, hr98⟩ := hS93.freezeR .here hrc84 RStop.mono (by decide)
 have le100 := Mem.le_trans le94 hm96
 replace hrc9 := RCs.mono RStop.mono hrc9 hm96
 replace hrc15 := RCs.mono (RS.mono RInt.mono) hrc15 hm96
 replace hrc24 := RCs.mono RInt.mono hrc24 hm96
 replace hrc69 := RCs.mono RInt.mono hrc69 hm96
 replace hrc70 := RCs.mono RInt.mono hrc70 hm96
 replace hrc84 := RCs.mono RStop.mono hrc84 hm96
 replace hrc90 := RCs.mono (RS.mono RInt.mono) hrc90 hm96
 obtain ⟨m101, hm102, hS103, hr104⟩ := hS97.freezeR .here hrc90 (RS.mono RInt.mono) (by decide)
 have le106 := Mem.le_trans le100 hm102
 replace hrc9 := RCs.mono RStop.mono hrc9 hm102
 replace hrc15 := RCs.mono (RS.mono RInt.mono) hrc15 hm102
 replace hrc24 := RCs.mono RInt.mono hrc24 hm102
 replace hrc69 := RCs.mono RInt.mono hrc69 hm102
 replace hrc70 := RCs.mono RInt.mono hrc70 hm102
 replace hrc84 := RCs.mono RStop.mono hrc84 hm102
 replace hrc90 := RCs.mono (RS.mono RInt.mono) hrc90 hm102
 replace hr98 := RSl.mono RStop.mono hr98 hm102
 obtain ⟨r107, hq108, hM⟩ := bnd_ok hM
 refine wl_call ent8 (vals := [.agg #[.slice _ _ _, .slice _ _ _, .int .i64 _, .int .i64 _, .int .i64 _]]) rfl (cg8 hS103 ⟨_, _, _, _, _, _, rfl, hr98, hr104⟩ hq108) ?_
 rintro _ w117 ⟨m109, a111, n112, c113, cs114, rfl, hm110, rfl, hrc115, hS118⟩
 have le119 := Mem.le_trans le106 hm110
 replace hrc9 := RCs.mono RStop.mono hrc9 hm110
 replace hrc15 := RCs.mono (RS.mono RInt.mono) hrc15 hm110
 replace hrc24 := RCs.mono RInt.mono hrc24 hm110
 replace hrc69 := RCs.mono RInt.mono hrc69 hm110
 replace hrc70 := RCs.mono RInt.mono hrc70 hm110
 replace hrc84 := RCs.mono RStop.mono hrc84 hm110
 replace hrc90 := RCs.mono (RS.mono RInt.mono) hrc90 hm110
 replace hr98 := RSl.mono RStop.mono hr98 hm110
 replace hr104 := RSl.mono (RS.mono RInt.mono) hr104 hm110
 refine wl_h hS118.toHeld (r_move (v := .tuple #[.slice _ _ _, .int .i64 _, .int .i64 _]) rfl) <| wl_h hS118.toHeld (r_extract (vs := [.slice _ _ _, .int .i64 _, .int .i64 _]) rfl (v := .slice _ _ _) rfl) <| wl_h hS118.toHeld (r_extract (vs := [.slice _ _ _, .int .i64 _, .int .i64 _]) rfl (v := .int .i64 _) rfl) <| wl_h hS118.toHeld (r_extract (vs := [.slice _ _ _, .int .i64 _, .int .i64 _]) rfl (v := .int .i64 _) rfl) <| wl_h hS118.toHeld (r_assign (v := .slice _ _ _) rfl) ?_
 refine wl_h hS118.toHeld (r_assign (v := .int .i64 _) rfl) <| wl_h hS118.toHeld (r_assign (v := .int .i64 _) rfl) <| wl_nil <| c_seq <| c_region ?_
 obtain ⟨r120, hq121, hM⟩ := bnd_ok hM
 refine wl_call ent27 (vals := []) rfl (cg27 hS118 hq121) ?_
 rintro _ w129 ⟨a123, n124, c125, cs126, rfl, rfl, hrc127, hS130⟩
 obtain ⟨m131, hm132, hS133, hr134, back135⟩ := hS130.lend .here hrc127 RStreet.mono (by decide)
 have le136 := hm132
 have hrc137 := RCs.mono RTour.mono hrc115 hm132
 have hrc138 := RCs.mono RStop.mono hrc9 hm132
 have hrc139 := RCs.mono (RS.mono RInt.mono) hrc15 hm132
 have hrc140 := RCs.mono RInt.mono hrc24 hm132
 have hrc141 := RCs.mono RInt.mono hrc69 hm132
 have hrc142 := RCs.mono RInt.mono hrc70 hm132
 obtain ⟨r143, hq144, hM⟩ := bnd_ok hM
 refine wl_call ent26 (vals := [.agg #[.int .i64 _, .slice _ _ _], .int .i64 _]) rfl (cg26 hS133 ⟨_, _, _, rfl, hr134⟩ hq144) ?_
 rintro _ w152 ⟨a146, n147, c148, cs149, rfl, rfl, hrc150, hS153⟩
 have hS154 := back135 _ _ hS153
 have hrc155 := RCs.move (m' := m109) RStep.any hrc150
 refine wl_h hS154.toHeld (r_move (v := .tuple #[.slice _ _ _, .int .i64 _, .int .i64 _]) rfl) <| wl_h hS154.toHeld (r_extract (vs := [.slice _ _ _, .int .i64 _, .int .i64 _]) rfl (v := .slice _ _ _) rfl) <| wl_h hS154.toHeld (r_extract (vs := [.slice _ _ _, .int .i64 _, .int .i64 _]) rfl (v := .int .i64 _) rfl) <| wl_h hS154.toHeld (r_extract (vs := [.slice _ _ _, .int .i64 _, .int .i64 _]) rfl (v := .int .i64 _) rfl) <| wl_h hS154.toHeld (r_assign (v := .slice _ _ _) rfl) ?_
 refine wl_h hS154.toHeld (r_assign (v := .int .i64 _) rfl) <| wl_h hS154.toHeld (r_assign (v := .int .i64 _) rfl) <| wl_nil <| c_seq <| c_region ?_
 obtain ⟨r156, hq157, hM⟩ := bnd_ok hM
 refine wl_call ent27 (vals := []) rfl (cg27 hS154 hq157) ?_
 rintro _ w165 ⟨a159, n160, c161, cs162, rfl, rfl, hrc163, hS166⟩
 refine wl_h hS166.toHeld (r_move (v := .slice _ _ _) rfl) ?_
 obtain ⟨m167, hm168, hS169, hr170, back171⟩ := hS166.lend .here hrc163 RStreet.mono (by decide)
 have le172 := hm168
 have hrc173 := RCs.mono RStreet.mono hrc127 hm168
 have hrc174 := RCs.mono RStep.mono hrc155 hm168
 have hrc175 := RCs.mono RTour.mono hrc115 hm168
 have hrc176 := RCs.mono RStop.mono hrc9 hm168
 have hrc177 := RCs.mono (RS.mono RInt.mono) hrc15 hm168
 have hrc178 := RCs.mono RInt.mono hrc24 hm168
 have hrc179 := RCs.mono RInt.mono hrc69 hm168
 have hrc180 := RCs.mono RInt.mono hrc70 hm168
 obtain ⟨m181, hm182, hS183, hr184, back185⟩ := hS169.lend (.there .here) hrc174 RStep.mono (by decide)
 have le186 := Mem.le_trans le172 hm182
 have hr187 := RSl.mono RStreet.mono hr170 hm182
 have hrc188 := RCs.mono RStreet.mono hrc173 hm182
 have hrc189 := RCs.mono RTour.mono hrc175 hm182
 have hrc190 := RCs.mono RStop.mono hrc176 hm182
 have hrc191 := RCs.mono (RS.mono RInt.mono) hrc177 hm182
 have hrc192 := RCs.mono RInt.mono hrc178 hm182
 have hrc193 := RCs.mono RInt.mono hrc179 hm182
 have hrc194 := RCs.mono RInt.mono hrc180 hm182
 obtain ⟨r195, hq196, hM⟩ := bnd_ok hM
 refine wl_call ent28 (vals := [.agg #[.int .i64 _, .slice _ _ _], .int .i64 _, .slice _ _ _]) rfl (cg28 hS183 ⟨_, _, _, rfl, hr187⟩ hr184 hq196) ?_
 rintro _ w198 ⟨rfl, hS199⟩
 have hS200 := back185 _ _ hS199
 have hS201 := back171 _ _ hS200
 refine wl_h hS201.toHeld (r_move (v := .tuple #[.int .i64 _, .int .i64 _]) rfl) <| wl_h hS201.toHeld (r_extract (vs := [.int .i64 _, .int .i64 _]) rfl (v := .int .i64 _) rfl) <| wl_h hS201.toHeld (r_extract (vs := [.int .i64 _, .int .i64 _]) rfl (v := .int .i64 _) rfl) <| wl_h hS201.toHeld (r_assign (v := .int .i64 _) rfl) <| wl_h hS201.toHeld (r_assign (v := .int .i64 _) rfl) ?_
 refine wl_nil <| c_seq <| c_region <| wl_h hS201.toHeld (r_move (v := .int .i64 _) rfl) <| wl_h hS201.toHeld (r_eql (a := _) (b := _) rfl rfl) ?_
 refine wl_h hS201.toHeld (r_move (v := .bool _) rfl) <| wl_split rfl (c := _) (t := 39) (fun h202 => ?_) (fun h202 => ?_)
 ·replace hM := bif_t h202 hM
  refine wl_on (t := 39) rfl rfl ?_
  refine wl_h hS201.toHeld (r_move (v := .int .i64 _) rfl) <| wl_on (t := 39) rfl rfl ?_
  refine wl_h hS201.toHeld (r_eql (a := _) (b := _) rfl rfl) <| wl_h hS201.toHeld (r_pick_t rfl (v := .bool _) rfl) <| wl_h hS201.toHeld (r_move (v := .bool _) rfl) <| wl_split rfl (c := _) (t := 43) (fun h203 => ?_) (fun h203 => ?_)
  ·replace hM := bif_t h203 hM
   refine wl_on (t := 43) rfl rfl ?_
   refine wl_h hS201.toHeld (r_move (v := .int .i64 _) rfl) <| wl_on (t := 43) rfl rfl ?_
   refine wl_h hS201.toHeld (r_eql (a := _) (b := _) rfl rfl) <| wl_h hS201.toHeld (r_pick_t rfl (v := .bool _) rfl) <| wl_h hS201.toHeld (r_move (v := .bool _) rfl) <| wl_split rfl (c := _) (t := 47) (fun h204 => ?_) (fun h204 => ?_)
   ·replace hM := bif_t h204 hM
    refine wl_on (t := 47) rfl rfl ?_
    refine wl_h hS201.toHeld (r_move (v := .int .i64 _) rfl) <| wl_on (t := 47) rfl rfl ?_
    refine wl_h hS201.toHeld (r_eql (a := _) (b := _) rfl rfl) <| wl_h hS201.toHeld (r_pick_t rfl (v := .bool _) rfl) <| wl_h hS201.toHeld (r_move (v := .bool _) rfl) <| wl_split rfl (c := _) (t := 51) (fun h205 => ?_) (fun h205 => ?_)
    ·replace hM := bif_t h205 hM
     refine wl_on (t := 51) rfl rfl ?_
     refine wl_h hS201.toHeld (r_fieldAddr fld42_1 (b := _) (o := _) rfl) <| wl_on (t := 51) rfl rfl ?_
     refine wl_h hS201.toHeld (r_box ty3 (k := 1) (.there (.there (.there (.there .here)))) rfl rfl rfl (v := .int .i64 _) rfl) <| wl_on (t := 51) rfl rfl ?_
     refine wl_h hS201.toHeld (r_eql (a := _) (b := _) rfl rfl) <| wl_h hS201.toHeld (r_pick_t rfl (v := .bool _) rfl) <| wl_h hS201.toHeld (r_move (v := .bool _) rfl) <| wl_split rfl (c := _) (t := 56) (fun h206 => ?_) (fun h206 => ?_)
     ·replace hM := bif_t h206 hM
      refine wl_on (t := 56) rfl rfl ?_
      refine wl_h hS201.toHeld (r_fieldAddr fld42_2 (b := _) (o := _) rfl) <| wl_on (t := 56) rfl rfl ?_
      refine wl_h hS201.toHeld (r_box ty3 (k := 2) (.there (.there (.there (.there .here)))) rfl rfl rfl (v := .int .i64 _) rfl) <| wl_on (t := 56) rfl rfl ?_
      refine wl_h hS201.toHeld (r_eql (a := _) (b := _) rfl rfl) <| wl_h hS201.toHeld (r_pick_t rfl (v := .bool _) rfl) <| wl_h hS201.toHeld (r_move (v := .bool _) rfl) <| wl_split rfl (c := _) (t := 61) (fun h207 => ?_) (fun h207 => ?_)
      ·replace hM := bif_t h207 hM
       refine wl_on (t := 61) rfl rfl ?_
       refine wl_h hS201.toHeld (r_move (v := .slice _ _ _) rfl) <| wl_on (t := 61) rfl rfl ?_
       refine wl_buildSlice Try.underlying35 ty3 rfl (by decide) (by decide) hS201 (ps := [(0, [.int .i64 _]), (1, [.int .i64 _])]) rfl rfl (cs := [.int .i64 _, .int .i64 _]) rfl rfl (by decide) ?_
       intro b209 w210 hS211
       have hrc212 : RCs 1 RInt m109 [.int .i64 80, .int .i64 87] ([80, 87] : List Int) := (RCs.cons (d := [.int .i64 80]) rfl rfl (RCs.cons (d := [.int .i64 87]) rfl rfl RCs.nil))
       refine wl_on (t := 61) rfl rfl ?_
       obtain ⟨m213, hm214, hS215, hr216, back217⟩ := hS211.lend (.there (.there (.there (.there (.there (.there (.there (.there (.there (.there .here)))))))))) hrc70 RInt.mono (by decide)
       have le218 := hm214
       have hrc219 := RCs.mono RInt.mono hrc212 hm214
       have hrc220 := RCs.mono RStreet.mono hrc163 hm214
       have hrc221 := RCs.mono RStep.mono hrc155 hm214
       have hrc222 := RCs.mono RStreet.mono hrc127 hm214
       have hrc223 := RCs.mono RTour.mono hrc115 hm214
       have hrc224 := RCs.mono RStop.mono hrc9 hm214
       have hrc225 := RCs.mono (RS.mono RInt.mono) hrc15 hm214
       have hrc226 := RCs.mono RInt.mono hrc24 hm214
       have hrc227 := RCs.mono RInt.mono hrc69 hm214
       obtain ⟨m228, hm229, hS230, hr231, back232⟩ := hS215.lend .here hrc219 RInt.mono (by decide)
       have le233 := Mem.le_trans le218 hm229
       have hr234 := RSl.mono RInt.mono hr216 hm229
       have hrc235 := RCs.mono RStreet.mono hrc220 hm229
       have hrc236 := RCs.mono RStep.mono hrc221 hm229
       have hrc237 := RCs.mono RStreet.mono hrc222 hm229
       have hrc238 := RCs.mono RTour.mono hrc223 hm229
       have hrc239 := RCs.mono RStop.mono hrc224 hm229
       have hrc240 := RCs.mono (RS.mono RInt.mono) hrc225 hm229
       have hrc241 := RCs.mono RInt.mono hrc226 hm229
       have hrc242 := RCs.mono RInt.mono hrc227 hm229
       obtain ⟨r243, hq244, hM⟩ := bnd_ok hM
       refine wl_call ent29 (vals := [.slice _ _ _, .slice _ _ _]) rfl (cg29 hS230 hr234 hr231 hq244) ?_
       rintro _ w246 ⟨rfl, hS247⟩
       have hS248 := back232 _ _ hS247
       have hS249 := back217 _ _ hS248
       refine wl_h hS249.toHeld (r_pick_t rfl (v := .bool _) rfl) <| wl_h hS249.toHeld (r_move (v := .bool _) rfl) <| wl_split rfl (c := _) (t := 66) (fun h250 => ?_) (fun h250 => ?_)
       ·replace hM := bif_t h250 hM
        refine wl_on (t := 66) rfl rfl ?_
        refine wl_h hS249.toHeld (r_move (v := .slice _ _ _) rfl) <| wl_on (t := 66) rfl rfl ?_
        refine wl_h hS249.toHeld (r_len Try.underlying36 (a := _) (n := _) (c := _) rfl) <| wl_on (t := 66) rfl rfl ?_
        refine wl_h hS249.toHeld (r_eql (a := _) (b := _) rfl rfl) <| wl_h hS249.toHeld (r_pick_t rfl (v := .bool _) rfl) <| wl_h hS249.toHeld (r_move (v := .bool _) rfl) <| wl_split rfl (c := _) (t := 71) (fun h251 => ?_) (fun h251 => ?_)
        ·replace hM := bif_t h251 hM
         refine wl_on (t := 71) rfl rfl ?_
         refine wl_h hS249.toHeld (r_move (v := .int .i64 _) rfl) <| wl_on (t := 71) rfl rfl ?_
         refine wl_h hS249.toHeld (r_eql (a := _) (b := _) rfl rfl) <| wl_h hS249.toHeld (r_pick_t rfl (v := .bool _) rfl) <| wl_h hS249.toHeld (r_move (v := .bool _) rfl) <| wl_split rfl (c := _) (t := 75) (fun h252 => ?_) (fun h252 => ?_)
         ·replace hM := bif_t h252 hM
          refine wl_on (t := 75) rfl rfl ?_
          refine wl_h hS249.toHeld (r_move (v := .int .i64 _) rfl) <| wl_on (t := 75) rfl rfl ?_
          refine wl_h hS249.toHeld (r_eql (a := _) (b := _) rfl rfl) <| wl_h hS249.toHeld (r_pick_t rfl (v := .bool _) rfl) <| wl_h hS249.toHeld (r_move (v := .bool _) rfl) <| wl_split rfl (c := _) (t := 79) (fun h253 => ?_) (fun h253 => ?_)
          ·replace hM := bif_t h253 hM
           refine wl_on (t := 79) rfl rfl ?_
           refine wl_h hS249.toHeld (r_move (v := .int .i64 _) rfl) <| wl_on (t := 79) rfl rfl ?_
           refine wl_h hS249.toHeld (r_eql (a := _) (b := _) rfl rfl) <| wl_h hS249.toHeld (r_pick_t rfl (v := .bool _) rfl) <| wl_h hS249.toHeld (r_assign (v := .bool _) rfl) <| wl_nil <| c_ret <| ret_tmp (t := 0) rfl (v := .bool _) rfl ?_
           obtain rfl := some_eq hM
           have hS254 := hS249.weaken (.cons _ (.cons _ (.cons _ (.cons _ (.cons _ (.cons _ (.cons _ (.cons _ (.cons _ (.cons _ (.cons _ (.refl _))))))))))))
           exact ⟨rfl, (St.back hS254 le119)⟩
          ·replace hM := bif_f h253 hM
           refine wl_off (t := 79) (b := false) rfl rfl rfl ?_
           refine wl_off (t := 79) (b := false) rfl rfl rfl ?_
           refine wl_h hS249.toHeld (r_pick_f rfl (v := .bool _) rfl) <| wl_h hS249.toHeld (r_assign (v := .bool _) rfl) <| wl_nil <| c_ret <| ret_tmp (t := 0) rfl (v := .bool _) rfl ?_
           obtain rfl := some_eq hM
           have hS255 := hS249.weaken (.cons _ (.cons _ (.cons _ (.cons _ (.cons _ (.cons _ (.cons _ (.cons _ (.cons _ (.cons _ (.cons _ (.refl _))))))))))))
           exact ⟨rfl, (St.back hS255 le119)⟩
         ·replace hM := bif_f h252 hM
          refine wl_off (t := 75) (b := false) rfl rfl rfl ?_
          refine wl_off (t := 75) (b := false) rfl rfl rfl ?_
          refine wl_h hS249.toHeld (r_pick_f rfl (v := .bool _) rfl) <| wl_h hS249.toHeld (r_move (v := .bool _) rfl) <| wl_off (t := 79) (b := false) rfl rfl rfl ?_
          refine wl_off (t := 79) (b := false) rfl rfl rfl ?_
          refine wl_h hS249.toHeld (r_pick_f rfl (v := .bool _) rfl) <| wl_h hS249.toHeld (r_assign (v := .bool _) rfl) <| wl_nil <| c_ret <| ret_tmp (t := 0) rfl (v := .bool _) rfl ?_
          obtain rfl := some_eq hM
          have hS256 := hS249.weaken (.cons _ (.cons _ (.cons _ (.cons _ (.cons _ (.cons _ (.cons _ (.cons _ (.cons _ (.cons _ (.cons _ (.refl _))))))))))))
          exact ⟨rfl, (St.back hS256 le119)⟩
        ·replace hM := bif_f h251 hM
         refine wl_off (t := 71) (b := false) rfl rfl rfl ?_
         refine wl_off (t := 71) (b := false) rfl rfl rfl ?_
         refine wl_h hS249.toHeld (r_pick_f rfl (v := .bool _) rfl) <| wl_h hS249.toHeld (r_move (v := .bool _) rfl) <| wl_off (t := 75) (b := false) rfl rfl rfl ?_
         refine wl_off (t := 75) (b := false) rfl rfl rfl ?_
         refine wl_h hS249.toHeld (r_pick_f rfl (v := .bool _) rfl) <| wl_h hS249.toHeld (r_move (v := .bool _) rfl) <| wl_off (t := 79) (b := false) rfl rfl rfl ?_
         refine wl_off (t := 79) (b := false) rfl rfl rfl ?_
         refine wl_h hS249.toHeld (r_pick_f rfl (v := .bool _) rfl) <| wl_h hS249.toHeld (r_assign (v := .bool _) rfl) <| wl_nil <| c_ret <| ret_tmp (t := 0) rfl (v := .bool _) rfl ?_
         obtain rfl := some_eq hM
         have hS257 := hS249.weaken (.cons _ (.cons _ (.cons _ (.cons _ (.cons _ (.cons _ (.cons _ (.cons _ (.cons _ (.cons _ (.cons _ (.refl _))))))))))))
         exact ⟨rfl, (St.back hS257 le119)⟩
       ·replace hM := bif_f h250 hM
        refine wl_off (t := 66) (b := false) rfl rfl rfl ?_
        refine wl_off (t := 66) (b := false) rfl rfl rfl ?_
        refine wl_off (t := 66) (b := false) rfl rfl rfl ?_
        refine wl_h hS249.toHeld (r_pick_f rfl (v := .bool _) rfl) <| wl_h hS249.toHeld (r_move (v := .bool _) rfl) <| wl_off (t := 71) (b := false) rfl rfl rfl ?_
        refine wl_off (t := 71) (b := false) rfl rfl rfl ?_
        refine wl_h hS249.toHeld (r_pick_f rfl (v := .bool _) rfl) <| wl_h hS249.toHeld (r_move (v := .bool _) rfl) <| wl_off (t := 75) (b := false) rfl rfl rfl ?_
        refine wl_off (t := 75) (b := false) rfl rfl rfl ?_
        refine wl_h hS249.toHeld (r_pick_f rfl (v := .bool _) rfl) <| wl_h hS249.toHeld (r_move (v := .bool _) rfl) <| wl_off (t := 79) (b := false) rfl rfl rfl ?_
        refine wl_off (t := 79) (b := false) rfl rfl rfl ?_
        refine wl_h hS249.toHeld (r_pick_f rfl (v := .bool _) rfl) <| wl_h hS249.toHeld (r_assign (v := .bool _) rfl) <| wl_nil <| c_ret <| ret_tmp (t := 0) rfl (v := .bool _) rfl ?_
        obtain rfl := some_eq hM
        have hS258 := hS249.weaken (.cons _ (.cons _ (.cons _ (.cons _ (.cons _ (.cons _ (.cons _ (.cons _ (.cons _ (.cons _ (.cons _ (.refl _))))))))))))
        exact ⟨rfl, (St.back hS258 le119)⟩
      ·replace hM := bif_f h207 hM
       refine wl_off (t := 61) (b := false) rfl rfl rfl ?_
       refine wl_off (t := 61) (b := false) rfl rfl rfl ?_
       refine wl_off (t := 61) (b := false) rfl rfl rfl ?_
       refine wl_h hS201.toHeld (r_pick_f rfl (v := .bool _) rfl) <| wl_h hS201.toHeld (r_move (v := .bool _) rfl) <| wl_off (t := 66) (b := false) rfl rfl rfl ?_
       refine wl_off (t := 66) (b := false) rfl rfl rfl ?_
       refine wl_off (t := 66) (b := false) rfl rfl rfl ?_
       refine wl_h hS201.toHeld (r_pick_f rfl (v := .bool _) rfl) <| wl_h hS201.toHeld (r_move (v := .bool _) rfl) <| wl_off (t := 71) (b := false) rfl rfl rfl ?_
       refine wl_off (t := 71) (b := false) rfl rfl rfl ?_
       refine wl_h hS201.toHeld (r_pick_f rfl (v := .bool _) rfl) <| wl_h hS201.toHeld (r_move (v := .bool _) rfl) <| wl_off (t := 75) (b := false) rfl rfl rfl ?_
       refine wl_off (t := 75) (b := false) rfl rfl rfl ?_
       refine wl_h hS201.toHeld (r_pick_f rfl (v := .bool _) rfl) <| wl_h hS201.toHeld (r_move (v := .bool _) rfl) <| wl_off (t := 79) (b := false) rfl rfl rfl ?_
       refine wl_off (t := 79) (b := false) rfl rfl rfl ?_
       refine wl_h hS201.toHeld (r_pick_f rfl (v := .bool _) rfl) <| wl_h hS201.toHeld (r_assign (v := .bool _) rfl) <| wl_nil <| c_ret <| ret_tmp (t := 0) rfl (v := .bool _) rfl ?_
       obtain rfl := some_eq hM
       have hS259 := hS201.weaken (.cons _ (.cons _ (.cons _ (.cons _ (.cons _ (.cons _ (.cons _ (.cons _ (.cons _ (.cons _ (.refl _)))))))))))
       exact ⟨rfl, (St.back hS259 le119)⟩
     ·replace hM := bif_f h206 hM
      refine wl_off (t := 56) (b := false) rfl rfl rfl ?_
      refine wl_off (t := 56) (b := false) rfl rfl rfl ?_
      refine wl_off (t := 56) (b := false) rfl rfl rfl ?_
      refine wl_h hS201.toHeld (r_pick_f rfl (v := .bool _) rfl) <| wl_h hS201.toHeld (r_move (v := .bool _) rfl) <| wl_off (t := 61) (b := false) rfl rfl rfl ?_
      refine wl_off (t := 61) (b := false) rfl rfl rfl ?_
      refine wl_off (t := 61) (b := false) rfl rfl rfl ?_
      refine wl_h hS201.toHeld (r_pick_f rfl (v := .bool _) rfl) <| wl_h hS201.toHeld (r_move (v := .bool _) rfl) <| wl_off (t := 66) (b := false) rfl rfl rfl ?_
      refine wl_off (t := 66) (b := false) rfl rfl rfl ?_
      refine wl_off (t := 66) (b := false) rfl rfl rfl ?_
      refine wl_h hS201.toHeld (r_pick_f rfl (v := .bool _) rfl) <| wl_h hS201.toHeld (r_move (v := .bool _) rfl) <| wl_off (t := 71) (b := false) rfl rfl rfl ?_
      refine wl_off (t := 71) (b := false) rfl rfl rfl ?_
      refine wl_h hS201.toHeld (r_pick_f rfl (v := .bool _) rfl) <| wl_h hS201.toHeld (r_move (v := .bool _) rfl) <| wl_off (t := 75) (b := false) rfl rfl rfl ?_
      refine wl_off (t := 75) (b := false) rfl rfl rfl ?_
      refine wl_h hS201.toHeld (r_pick_f rfl (v := .bool _) rfl) <| wl_h hS201.toHeld (r_move (v := .bool _) rfl) <| wl_off (t := 79) (b := false) rfl rfl rfl ?_
      refine wl_off (t := 79) (b := false) rfl rfl rfl ?_
      refine wl_h hS201.toHeld (r_pick_f rfl (v := .bool _) rfl) <| wl_h hS201.toHeld (r_assign (v := .bool _) rfl) <| wl_nil <| c_ret <| ret_tmp (t := 0) rfl (v := .bool _) rfl ?_
      obtain rfl := some_eq hM
      have hS260 := hS201.weaken (.cons _ (.cons _ (.cons _ (.cons _ (.cons _ (.cons _ (.cons _ (.cons _ (.cons _ (.cons _ (.refl _)))))))))))
      exact ⟨rfl, (St.back hS260 le119)⟩
    ·replace hM := bif_f h205 hM
     refine wl_off (t := 51) (b := false) rfl rfl rfl ?_
     refine wl_off (t := 51) (b := false) rfl rfl rfl ?_
     refine wl_off (t := 51) (b := false) rfl rfl rfl ?_
     refine wl_h hS201.toHeld (r_pick_f rfl (v := .bool _) rfl) <| wl_h hS201.toHeld (r_move (v := .bool _) rfl) <| wl_off (t := 56) (b := false) rfl rfl rfl ?_
     refine wl_off (t := 56) (b := false) rfl rfl rfl ?_
     refine wl_off (t := 56) (b := false) rfl rfl rfl ?_
     refine wl_h hS201.toHeld (r_pick_f rfl (v := .bool _) rfl) <| wl_h hS201.toHeld (r_move (v := .bool _) rfl) <| wl_off (t := 61) (b := false) rfl rfl rfl ?_
     refine wl_off (t := 61) (b := false) rfl rfl rfl ?_
     refine wl_off (t := 61) (b := false) rfl rfl rfl ?_
     refine wl_h hS201.toHeld (r_pick_f rfl (v := .bool _) rfl) <| wl_h hS201.toHeld (r_move (v := .bool _) rfl) <| wl_off (t := 66) (b := false) rfl rfl rfl ?_
     refine wl_off (t := 66) (b := false) rfl rfl rfl ?_
     refine wl_off (t := 66) (b := false) rfl rfl rfl ?_
     refine wl_h hS201.toHeld (r_pick_f rfl (v := .bool _) rfl) <| wl_h hS201.toHeld (r_move (v := .bool _) rfl) <| wl_off (t := 71) (b := false) rfl rfl rfl ?_
     refine wl_off (t := 71) (b := false) rfl rfl rfl ?_
     refine wl_h hS201.toHeld (r_pick_f rfl (v := .bool _) rfl) <| wl_h hS201.toHeld (r_move (v := .bool _) rfl) <| wl_off (t := 75) (b := false) rfl rfl rfl ?_
     refine wl_off (t := 75) (b := false) rfl rfl rfl ?_
     refine wl_h hS201.toHeld (r_pick_f rfl (v := .bool _) rfl) <| wl_h hS201.toHeld (r_move (v := .bool _) rfl) <| wl_off (t := 79) (b := false) rfl rfl rfl ?_
     refine wl_off (t := 79) (b := false) rfl rfl rfl ?_
     refine wl_h hS201.toHeld (r_pick_f rfl (v := .bool _) rfl) <| wl_h hS201.toHeld (r_assign (v := .bool _) rfl) <| wl_nil <| c_ret <| ret_tmp (t := 0) rfl (v := .bool _) rfl ?_
     obtain rfl := some_eq hM
     have hS261 := hS201.weaken (.cons _ (.cons _ (.cons _ (.cons _ (.cons _ (.cons _ (.cons _ (.cons _ (.cons _ (.cons _ (.refl _)))))))))))
     exact ⟨rfl, (St.back hS261 le119)⟩
   ·replace hM := bif_f h204 hM
    refine wl_off (t := 47) (b := false) rfl rfl rfl ?_
    refine wl_off (t := 47) (b := false) rfl rfl rfl ?_
    refine wl_h hS201.toHeld (r_pick_f rfl (v := .bool _) rfl) <| wl_h hS201.toHeld (r_move (v := .bool _) rfl) <| wl_off (t := 51) (b := false) rfl rfl rfl ?_
    refine wl_off (t := 51) (b := false) rfl rfl rfl ?_
    refine wl_off (t := 51) (b := false) rfl rfl rfl ?_
    refine wl_h hS201.toHeld (r_pick_f rfl (v := .bool _) rfl) <| wl_h hS201.toHeld (r_move (v := .bool _) rfl) <| wl_off (t := 56) (b := false) rfl rfl rfl ?_
    refine wl_off (t := 56) (b := false) rfl rfl rfl ?_
    refine wl_off (t := 56) (b := false) rfl rfl rfl ?_
    refine wl_h hS201.toHeld (r_pick_f rfl (v := .bool _) rfl) <| wl_h hS201.toHeld (r_move (v := .bool _) rfl) <| wl_off (t := 61) (b := false) rfl rfl rfl ?_
    refine wl_off (t := 61) (b := false) rfl rfl rfl ?_
    refine wl_off (t := 61) (b := false) rfl rfl rfl ?_
    refine wl_h hS201.toHeld (r_pick_f rfl (v := .bool _) rfl) <| wl_h hS201.toHeld (r_move (v := .bool _) rfl) <| wl_off (t := 66) (b := false) rfl rfl rfl ?_
    refine wl_off (t := 66) (b := false) rfl rfl rfl ?_
    refine wl_off (t := 66) (b := false) rfl rfl rfl ?_
    refine wl_h hS201.toHeld (r_pick_f rfl (v := .bool _) rfl) <| wl_h hS201.toHeld (r_move (v := .bool _) rfl) <| wl_off (t := 71) (b := false) rfl rfl rfl ?_
    refine wl_off (t := 71) (b := false) rfl rfl rfl ?_
    refine wl_h hS201.toHeld (r_pick_f rfl (v := .bool _) rfl) <| wl_h hS201.toHeld (r_move (v := .bool _) rfl) <| wl_off (t := 75) (b := false) rfl rfl rfl ?_
    refine wl_off (t := 75) (b := false) rfl rfl rfl ?_
    refine wl_h hS201.toHeld (r_pick_f rfl (v := .bool _) rfl) <| wl_h hS201.toHeld (r_move (v := .bool _) rfl) <| wl_off (t := 79) (b := false) rfl rfl rfl ?_
    refine wl_off (t := 79) (b := false) rfl rfl rfl ?_
    refine wl_h hS201.toHeld (r_pick_f rfl (v := .bool _) rfl) <| wl_h hS201.toHeld (r_assign (v := .bool _) rfl) <| wl_nil <| c_ret <| ret_tmp (t := 0) rfl (v := .bool _) rfl ?_
    obtain rfl := some_eq hM
    have hS262 := hS201.weaken (.cons _ (.cons _ (.cons _ (.cons _ (.cons _ (.cons _ (.cons _ (.cons _ (.cons _ (.cons _ (.refl _)))))))))))
    exact ⟨rfl, (St.back hS262 le119)⟩
  ·replace hM := bif_f h203 hM
   refine wl_off (t := 43) (b := false) rfl rfl rfl ?_
   refine wl_off (t := 43) (b := false) rfl rfl rfl ?_
   refine wl_h hS201.toHeld (r_pick_f rfl (v := .bool _) rfl) <| wl_h hS201.toHeld (r_move (v := .bool _) rfl) <| wl_off (t := 47) (b := false) rfl rfl rfl ?_
   refine wl_off (t := 47) (b := false) rfl rfl rfl ?_
   refine wl_h hS201.toHeld (r_pick_f rfl (v := .bool _) rfl) <| wl_h hS201.toHeld (r_move (v := .bool _) rfl) <| wl_off (t := 51) (b := false) rfl rfl rfl ?_
   refine wl_off (t := 51) (b := false) rfl rfl rfl ?_
   refine wl_off (t := 51) (b := false) rfl rfl rfl ?_
   refine wl_h hS201.toHeld (r_pick_f rfl (v := .bool _) rfl) <| wl_h hS201.toHeld (r_move (v := .bool _) rfl) <| wl_off (t := 56) (b := false) rfl rfl rfl ?_
   refine wl_off (t := 56) (b := false) rfl rfl rfl ?_
   refine wl_off (t := 56) (b := false) rfl rfl rfl ?_
   refine wl_h hS201.toHeld (r_pick_f rfl (v := .bool _) rfl) <| wl_h hS201.toHeld (r_move (v := .bool _) rfl) <| wl_off (t := 61) (b := false) rfl rfl rfl ?_
   refine wl_off (t := 61) (b := false) rfl rfl rfl ?_
   refine wl_off (t := 61) (b := false) rfl rfl rfl ?_
   refine wl_h hS201.toHeld (r_pick_f rfl (v := .bool _) rfl) <| wl_h hS201.toHeld (r_move (v := .bool _) rfl) <| wl_off (t := 66) (b := false) rfl rfl rfl ?_
   refine wl_off (t := 66) (b := false) rfl rfl rfl ?_
   refine wl_off (t := 66) (b := false) rfl rfl rfl ?_
   refine wl_h hS201.toHeld (r_pick_f rfl (v := .bool _) rfl) <| wl_h hS201.toHeld (r_move (v := .bool _) rfl) <| wl_off (t := 71) (b := false) rfl rfl rfl ?_
   refine wl_off (t := 71) (b := false) rfl rfl rfl ?_
   refine wl_h hS201.toHeld (r_pick_f rfl (v := .bool _) rfl) <| wl_h hS201.toHeld (r_move (v := .bool _) rfl) <| wl_off (t := 75) (b := false) rfl rfl rfl ?_
   refine wl_off (t := 75) (b := false) rfl rfl rfl ?_
   refine wl_h hS201.toHeld (r_pick_f rfl (v := .bool _) rfl) <| wl_h hS201.toHeld (r_move (v := .bool _) rfl) <| wl_off (t := 79) (b := false) rfl rfl rfl ?_
   refine wl_off (t := 79) (b := false) rfl rfl rfl ?_
   refine wl_h hS201.toHeld (r_pick_f rfl (v := .bool _) rfl) <| wl_h hS201.toHeld (r_assign (v := .bool _) rfl) <| wl_nil <| c_ret <| ret_tmp (t := 0) rfl (v := .bool _) rfl ?_
   obtain rfl := some_eq hM
   have hS263 := hS201.weaken (.cons _ (.cons _ (.cons _ (.cons _ (.cons _ (.cons _ (.cons _ (.cons _ (.cons _ (.cons _ (.refl _)))))))))))
   exact ⟨rfl, (St.back hS263 le119)⟩
 ·replace hM := bif_f h202 hM
  refine wl_off (t := 39) (b := false) rfl rfl rfl ?_
  refine wl_off (t := 39) (b := false) rfl rfl rfl ?_
  refine wl_h hS201.toHeld (r_pick_f rfl (v := .bool _) rfl) <| wl_h hS201.toHeld (r_move (v := .bool _) rfl) <| wl_off (t := 43) (b := false) rfl rfl rfl ?_
  refine wl_off (t := 43) (b := false) rfl rfl rfl ?_
  refine wl_h hS201.toHeld (r_pick_f rfl (v := .bool _) rfl) <| wl_h hS201.toHeld (r_move (v := .bool _) rfl) <| wl_off (t := 47) (b := false) rfl rfl rfl ?_
  refine wl_off (t := 47) (b := false) rfl rfl rfl ?_
  refine wl_h hS201.toHeld (r_pick_f rfl (v := .bool _) rfl) <| wl_h hS201.toHeld (r_move (v := .bool _) rfl) <| wl_off (t := 51) (b := false) rfl rfl rfl ?_
  refine wl_off (t := 51) (b := false) rfl rfl rfl ?_
  refine wl_off (t := 51) (b := false) rfl rfl rfl ?_
  refine wl_h hS201.toHeld (r_pick_f rfl (v := .bool _) rfl) <| wl_h hS201.toHeld (r_move (v := .bool _) rfl) <| wl_off (t := 56) (b := false) rfl rfl rfl ?_
  refine wl_off (t := 56) (b := false) rfl rfl rfl ?_
  refine wl_off (t := 56) (b := false) rfl rfl rfl ?_
  refine wl_h hS201.toHeld (r_pick_f rfl (v := .bool _) rfl) <| wl_h hS201.toHeld (r_move (v := .bool _) rfl) <| wl_off (t := 61) (b := false) rfl rfl rfl ?_
  refine wl_off (t := 61) (b := false) rfl rfl rfl ?_
  refine wl_off (t := 61) (b := false) rfl rfl rfl ?_
  refine wl_h hS201.toHeld (r_pick_f rfl (v := .bool _) rfl) <| wl_h hS201.toHeld (r_move (v := .bool _) rfl) <| wl_off (t := 66) (b := false) rfl rfl rfl ?_
  refine wl_off (t := 66) (b := false) rfl rfl rfl ?_
  refine wl_off (t := 66) (b := false) rfl rfl rfl ?_
  refine wl_h hS201.toHeld (r_pick_f rfl (v := .bool _) rfl) <| wl_h hS201.toHeld (r_move (v := .bool _) rfl) <| wl_off (t := 71) (b := false) rfl rfl rfl ?_
  refine wl_off (t := 71) (b := false) rfl rfl rfl ?_
  refine wl_h hS201.toHeld (r_pick_f rfl (v := .bool _) rfl) <| wl_h hS201.toHeld (r_move (v := .bool _) rfl) <| wl_off (t := 75) (b := false) rfl rfl rfl ?_
  refine wl_off (t := 75) (b := false) rfl rfl rfl ?_
  refine wl_h hS201.toHeld (r_pick_f rfl (v := .bool _) rfl) <| wl_h hS201.toHeld (r_move (v := .bool _) rfl) <| wl_off (t := 79) (b := false) rfl rfl rfl ?_
  refine wl_off (t := 79) (b := false) rfl rfl rfl ?_
  refine wl_h hS201.toHeld (r_pick_f rfl (v := .bool _) rfl) <| wl_h hS201.toHeld (r_assign (v := .bool _) rfl) <| wl_nil <| c_ret <| ret_tmp (t := 0) rfl (v := .bool _) rfl ?_
  obtain rfl := some_eq hM
  have hS264 := hS201.weaken (.cons _ (.cons _ (.cons _ (.cons _ (.cons _ (.cons _ (.cons _ (.cons _ (.cons _ (.cons _ (.refl _)))))))))))
  exact ⟨rfl, (St.back hS264 le119)⟩

theorem cg12 {m : Mem} {L : List Atom} {w : World} {cs1 : List Value} {f3 : Fleet} {a13 : Option Addr} {n14 c15 : Nat} {stops17 : List Int} (hS : St w m L) (hx2 : RFleet m cs1 f3) (hr16 : RSl 1 RInt m a13 n14 c15 stops17) {fuel : Nat} {r : Int × Int} (hM : mg12 fuel f3 stops17 = some r) : Calls P0 12 [.agg cs1.toArray, .slice a13 n14 c15].toArray w (Ret fun v w' => v = .tuple #[.int .i64 r.1, .int .i64 r.2] ∧ St w' m (L)) := by
 rw [mg12] at hM
 have hk12 := hx2
 obtain ⟨a4, n5, c6, a8, n9, c10, rfl, hr7, hr11⟩ := hx2
 obtain rfl := hr7.1
 obtain rfl := hr11.1
 obtain rfl := hr16.1
 refine enter Try.func12 rfl Try.ntmps12 (Nat.le_of_ble_eq_true rfl) ?_
 refine c_seq <| c_region <| wl_box hS (v := .agg #[.slice _ _ _, .slice _ _ _, .int .i64 _, .int .i64 _, .int .i64 _]) rfl (cs := [.slice _ _ _, .slice _ _ _, .int .i64 _, .int .i64 _, .int .i64 _]) rfl ?_
 intro b18 w19 hS20
 refine wl_h hS20.toHeld (r_assign (v := .int .i64 _) rfl) <| wl_h hS20.toHeld (r_assign (v := .int .i64 _) rfl) <| wl_nil <| c_seq <| c_region <| wl_h hS20.toHeld (r_box ty26 (k := 0) .here rfl rfl rfl (v := .agg #[.slice _ _ _, .slice _ _ _, .int .i64 _, .int .i64 _, .int .i64 _]) rfl) ?_
 refine wl_h hS20.toHeld (r_move (v := .slice _ _ _) rfl) ?_
 obtain ⟨r21, hq22, hM⟩ := bnd_ok hM
 refine wl_call ent10 (vals := [.agg #[.slice _ _ _, .slice _ _ _, .int .i64 _, .int .i64 _, .int .i64 _], .slice _ _ _]) rfl (cg10 hS20 hk12 hr16 hq22) ?_
 rintro _ w36 ⟨a24, n25, c26, cs27, a30, n31, c32, cs33, rfl, rfl, hrc28, rfl, hrc34, hS37⟩
 refine wl_h hS37.toHeld (r_move (v := .tuple #[.agg #[.slice _ _ _, .int .i64 _, .int .i64 _], .slice _ _ _, .int .i64 _]) rfl) <| wl_h hS37.toHeld (r_extract (vs := [.agg #[.slice _ _ _, .int .i64 _, .int .i64 _], .slice _ _ _, .int .i64 _]) rfl (v := .agg #[.slice _ _ _, .int .i64 _, .int .i64 _]) rfl) <| wl_h hS37.toHeld (r_extract (vs := [.agg #[.slice _ _ _, .int .i64 _, .int .i64 _], .slice _ _ _, .int .i64 _]) rfl (v := .slice _ _ _) rfl) <| wl_h hS37.toHeld (r_extract (vs := [.agg #[.slice _ _ _, .int .i64 _, .int .i64 _], .slice _ _ _, .int .i64 _]) rfl (v := .int .i64 _) rfl) <| wl_alloc ty42 rfl hS37 ?_
 intro b38 w39 hS40
 refine wl_store_box ty42 hS40 rfl (v := .agg #[.slice _ _ _, .int .i64 _, .int .i64 _]) rfl (vs := [.slice _ _ _, .int .i64 _, .int .i64 _]) rfl rfl rfl .here (cs' := [.slice _ _ _, .int .i64 _, .int .i64 _]) rfl rfl ?_
 intro w41 hS42
 refine wl_h hS42.toHeld (r_assign (v := .slice _ _ _) rfl) <| wl_h hS42.toHeld (r_assign (v := .int .i64 _) rfl) <| wl_nil <| c_seq <| c_seq <| c_region <| wl_h hS42.toHeld (r_move (v := .int .i64 _) rfl) ?_
 refine wl_h hS42.toHeld (r_neq (a := _) (b := _) rfl rfl) <| wl_nil <| c_cond (c := _) rfl (fun h43 => ?_) (fun h43 => ?_)
 ·replace hM := bif_t h43 hM
  refine c_seq <| c_region <| wl_h hS42.toHeld (r_move (v := .int .i64 _) rfl) <| wl_h hS42.toHeld (r_assign (v := .int .i64 _) rfl) <| wl_h hS42.toHeld (r_assign (v := .int .i64 _) rfl) ?_
  refine wl_nil <| c_ret <| ret_many rfl (.tmp (v := .int .i64 _) rfl (.tmp (v := .int .i64 _) rfl .nil)) ?_
  obtain rfl := some_eq hM
  have hS44 := hS42.weaken (.cons _ (.cons _ (.cons _ (.cons _ (.refl _)))))
  exact ⟨rfl, hS44⟩
 ·replace hM := bif_f h43 hM
  refine c_skip <| c_seq <| c_region <| wl_h hS42.toHeld (r_assign (v := .int .i64 _) rfl) <| wl_nil <| c_block ?_
  have hS45 := hS42.weaken (.cons_cons _ (.cons_cons _ (.cons _ (.cons_cons _ (.refl _)))))
  refine c_loop (fun k f w => ∃ (n74 : Int), mg12_l0 fuel f3 stops17 r21 k n74 = some r ∧ St w m (.box b38 42 [.slice a24 r21.1.stops.length c26, .int .i64 r21.1.leave, .int .i64 r21.1.fin] :: .row (.slice a24 r21.1.stops.length c26) 3 1 cs27 :: .box b18 26 [.slice a4 f3.stops.length c6, .slice a8 f3.minutes.length c10, .int .i64 f3.cap, .int .i64 f3.start, .int .i64 f3.back] :: L) ∧ f 1 = .slice a13 stops17.length c15 ∧ f 2 = .pointer (some ⟨b18, 0, none⟩) ∧ f 6 = .pointer (some ⟨b38, 0, none⟩) ∧ f 9 = .int .i64 n74) fuel ⟨0, hM, hS45, rfl, rfl, rfl, rfl⟩ ?_
  rintro k_0 f75 w76 ⟨n74, hM, hS78, e79, e80, e81, e82⟩
  refine c_know (t := 1) e79 <| c_know (t := 2) e80 <| c_know (t := 6) e81 <| c_know (t := 9) e82 ?_
  clear e79 e80 e81 e82
  rcases k_0 with _ | k_0
  · exact none_ne hM
  rw [mg12_l0] at hM
  refine c_block <| c_seq <| c_seq <| c_region <| wl_h hS78.toHeld (r_box ty26 (k := 0) (.there (.there .here)) rfl rfl rfl (v := .agg #[.slice _ _ _, .slice _ _ _, .int .i64 _, .int .i64 _, .int .i64 _]) rfl) ?_
  refine wl_h hS78.toHeld (r_move (v := .slice _ _ _) rfl) <| wl_h hS78.toHeld (r_fieldAddr fld42_1 (b := _) (o := _) rfl) <| wl_h hS78.toHeld (r_box ty3 (k := 1) .here rfl rfl rfl (v := .int .i64 _) rfl) <| wl_h hS78.toHeld (r_move (v := .int .i64 _) rfl) ?_
  obtain ⟨hc83, hM⟩ := chk_ok hM
  refine wl_h hS78.toHeld (r_add (a := _) (b := _) rfl rfl (ok_lo hc83) (ok_hi hc83)) ?_
  obtain ⟨hc84, hM⟩ := chk_ok hM
  refine wl_h hS78.toHeld (r_add (a := _) (b := _) rfl rfl (ok_lo hc84) (ok_hi hc84)) ?_
  obtain ⟨r85, hq86, hM⟩ := bnd_ok hM
  refine wl_call ent23 (vals := [.agg #[.slice _ _ _, .slice _ _ _, .int .i64 _, .int .i64 _, .int .i64 _], .slice _ _ _, .int .i64 _]) rfl (cg23 hS78 hk12 hr16 hq86) ?_
  rintro _ w100 ⟨a88, n89, c90, cs91, a94, n95, c96, cs97, rfl, rfl, hrc92, rfl, hrc98, hS101⟩
  refine wl_h hS101.toHeld (r_move (v := .tuple #[.agg #[.slice _ _ _, .int .i64 _, .int .i64 _], .slice _ _ _, .bool _]) rfl) <| wl_h hS101.toHeld (r_extract (vs := [.agg #[.slice _ _ _, .int .i64 _, .int .i64 _], .slice _ _ _, .bool _]) rfl (v := .agg #[.slice _ _ _, .int .i64 _, .int .i64 _]) rfl) <| wl_h hS101.toHeld (r_extract (vs := [.agg #[.slice _ _ _, .int .i64 _, .int .i64 _], .slice _ _ _, .bool _]) rfl (v := .slice _ _ _) rfl) <| wl_h hS101.toHeld (r_extract (vs := [.agg #[.slice _ _ _, .int .i64 _, .int .i64 _], .slice _ _ _, .bool _]) rfl (v := .bool _) rfl) <| wl_alloc ty42 rfl hS101 ?_
  intro b102 w103 hS104
  refine wl_store_box ty42 hS104 rfl (v := .agg #[.slice _ _ _, .int .i64 _, .int .i64 _]) rfl (vs := [.slice _ _ _, .int .i64 _, .int .i64 _]) rfl rfl rfl .here (cs' := [.slice _ _ _, .int .i64 _, .int .i64 _]) rfl rfl ?_
  intro w105 hS106
  refine wl_h hS106.toHeld (r_assign (v := .slice _ _ _) rfl) <| wl_h hS106.toHeld (r_assign (v := .bool _) rfl) <| wl_nil <| c_seq <| c_region <| wl_h hS106.toHeld (r_move (v := .bool _) rfl) ?_
  refine wl_h hS106.toHeld (r_not (b := _) rfl) <| wl_nil <| c_cond (c := _) rfl (fun h107 => ?_) (fun h107 => ?_)
  ·replace hM := bif_t h107 hM
   refine c_seq <| c_region <| wl_h hS106.toHeld (r_move (v := .int .i64 _) rfl) <| wl_h hS106.toHeld (r_assign (v := .int .i64 _) rfl) <| wl_h hS106.toHeld (r_assign (v := .int .i64 _) rfl) ?_
   refine wl_nil <| c_ret <| q_retb <| q_retl <| q_retb ?_
   refine ret_many rfl (.tmp (v := .int .i64 _) rfl (.tmp (v := .int .i64 _) rfl .nil)) ?_
   obtain rfl := some_eq hM
   have hS108 := hS106.weaken (.cons _ (.cons _ (.cons _ (.cons _ (.cons _ (.cons _ (.refl _)))))))
   exact ⟨rfl, hS108⟩
  ·replace hM := bif_f h107 hM
   refine c_skip <| c_region <| wl_h hS106.toHeld (r_move (v := .int .i64 _) rfl) ?_
   obtain ⟨hc109, hM⟩ := chk_ok hM
   refine wl_h hS106.toHeld (r_add (a := _) (b := _) rfl rfl (ok_lo hc109) (ok_hi hc109)) <| wl_h hS106.toHeld (r_assign (v := .int .i64 _) rfl) <| wl_nil <| c_nil <| q_norm <| c_nil <| q_loop ?_
   have hS110 := hS106.weaken (.cons _ (.cons _ (.cons _ (.cons_cons _ (.cons_cons _ (.cons_cons _ (.refl _)))))))
   exact ⟨k_0, Nat.lt_succ_self _, n74 + 1, hM, hS110, rfl, rfl, rfl, rfl⟩

theorem cg13 {m : Mem} {L : List Atom} {w : World} {a : Option Addr} {n c : Nat} {xs : List Stop} (hS : St w m L) (hr : RSl 5 RStop m a n c xs) {fuel : Nat} {r : List Stop} (hM : mg13 fuel xs = some r) : Calls P0 13 [.slice a n c].toArray w (Ret fun v w' => ∃ (a0 : Option Addr) (n0 c0 : Nat) (cs0 : List Value), v = .slice a0 n0 c0 ∧ n0 = r.length ∧ RCs 5 RStop m cs0 r ∧ St w' m (.row (.slice a0 n0 c0) 34 5 cs0 :: L)) := by
 rw [mg13] at hM
 rcases a with _ | ad
 · obtain rfl : n = 0 := by
    rcases Nat.eq_zero_or_pos n with h | h
    · exact h
    · obtain ⟨b, o, e, _⟩ := hr.2.2.2 h; cases e
   obtain rfl : xs = [] := List.eq_nil_of_length_eq_zero hr.1
   refine enter Try.func13 rfl Try.ntmps13 (Nat.le_of_ble_eq_true rfl) ?_
   refine c_seq <| c_region <| wl_h hS.toHeld (r_assign (v := .slice _ _ _) rfl) <| wl_nil <| c_seq <| c_seq <| c_region <| wl_h hS.toHeld (r_move (v := .slice _ _ _) rfl) ?_
   refine wl_h hS.toHeld (r_nil_eql Try.underlying23 rfl rfl) <| wl_nil <| c_true rfl <| c_seq <| c_region <| wl_h hS.toHeld (r_assign (v := .slice _ _ _) rfl) ?_
   refine wl_nil <| c_ret <| ret_tmp (t := 2) rfl (v := .slice _ _ _) rfl ?_
   have hS1 := hS.nilRow 34 5
   have hrc3 : RCs 5 RStop m [] ([] : List Stop) := RCs.nil
   obtain ⟨_, hM⟩ := chk_ok hM
   obtain rfl := some_eq hM
   exact ⟨none, 0, 0, [], rfl, row_n (hS1.toHeld.own .here) hrc3 (by decide), hrc3, hS1⟩
 · obtain rfl := hr.1
   refine enter Try.func13 rfl Try.ntmps13 (Nat.le_of_ble_eq_true rfl) ?_
   refine c_seq <| c_region <| wl_h hS.toHeld (r_assign (v := .slice _ _ _) rfl) <| wl_nil <| c_seq <| c_seq <| c_region <| wl_h hS.toHeld (r_move (v := .slice _ _ _) rfl) ?_
   refine wl_h hS.toHeld (r_nil_eql Try.underlying23 rfl rfl) <| wl_nil <| c_false rfl <| c_skip <| c_seq <| c_region <| wl_emptySlice Try.underlying23 ty34 hS ?_
   intro b2 w3 hS4
   have hrc5 : RCs 5 RStop m [] ([] : List Stop) := RCs.nil
   refine wl_h hS4.toHeld (r_move (v := .slice _ _ _) rfl) ?_
   obtain ⟨hc6, hM⟩ := chk_ok hM
   obtain ⟨cs7, hq8, hrc9⟩ := RSl.cells RStop.one (by decide) hr hS4.toHeld
   refine wl_append_src Try.underlying23 ty34 rfl (by decide) hS4 (a := _) (nn := _) (c := _) rfl (a2 := _) (k2 := _) (c2 := _) rfl .here hq8 (lim_b hc6 rfl) (lim_a hc6) ?_
   intro a10 c11 w12 hS13
   have hrc15 := RCs.append hrc5 hrc9
   generalize [] ++ cs7 = cs16 at hS13 hrc15
   refine wl_h hS13.toHeld (r_assign (v := .slice _ _ _) rfl) <| wl_nil <| c_ret <| ret_tmp (t := 2) rfl (v := .slice _ _ _) rfl ?_
   obtain rfl := some_eq hM
   exact ⟨a10, (0 + xs.length), c11, cs16, rfl, row_n (hS13.toHeld.own .here) hrc15 (by decide), hrc15, hS13⟩

theorem cg4 {m : Mem} {L : List Atom} {w : World} {a1 : Option Addr} {n2 c3 : Nat} {l5 : List Int} {a6 : Option Addr} {n7 c8 : Nat} {m10 : List Int} (hS : St w m L) (hr4 : RSl 1 (RIntK .u8) m a1 n2 c3 l5) (hr9 : RSl 1 (RIntK .u8) m a6 n7 c8 m10) {fuel : Nat} {r : Bool} (hM : mg4 fuel l5 m10 = some r) : Calls P0 4 [.slice a1 n2 c3, .slice a6 n7 c8].toArray w (Ret fun v w' => v = .bool r ∧ St w' m (L)) := by
 rw [mg4] at hM
 obtain rfl := hr4.1
 obtain rfl := hr9.1
 refine enter Try.func4 rfl Try.ntmps4 (Nat.le_of_ble_eq_true rfl) ?_
 refine c_seq <| c_region <| wl_h hS.toHeld (r_assign (v := .bool _) rfl) <| wl_nil <| c_seq <| c_region <| wl_h hS.toHeld (r_move (v := .slice _ _ _) rfl) ?_
 obtain ⟨r11, hq12, hM⟩ := bnd_ok hM
 refine wl_call ent6 (vals := [.slice _ _ _, .int .i64 _]) rfl (cg6 hS hr4 hq12) ?_
 rintro _ w27 ⟨m13, a15, n16, c17, cs18, a21, n22, c23, cs24, rfl, hm14, rfl, hrc19, rfl, hrc25, hS28⟩
 have le29 := hm14
 replace hr4 := RSl.mono RIntK.mono hr4 hm14
 replace hr9 := RSl.mono RIntK.mono hr9 hm14
 refine wl_alloc ty26 rfl hS28 ?_
 intro b30 w31 hS32
 refine wl_store_box ty26 hS32 rfl (v := .agg #[.slice _ _ _, .slice _ _ _, .int .i64 _, .int .i64 _, .int .i64 _]) rfl (vs := [.slice _ _ _, .slice _ _ _, .int .i64 _, .int .i64 _, .int .i64 _]) rfl rfl rfl .here (cs' := [.slice _ _ _, .slice _ _ _, .int .i64 _, .int .i64 _, .int .i64 _]) rfl rfl ?_
 intro w33 hS34
 refine wl_nil <| c_seq <| c_seq <| c_region <| wl_h hS34.toHeld (r_fieldAddr fld26_0 (b := _) (o := _) rfl) ?_
 refine wl_h hS34.toHeld (r_box ty23 (k := 0) .here rfl rfl rfl (v := .slice _ _ _) rfl) <| wl_h hS34.toHeld (r_len Try.underlying23 (a := _) (n := _) (c := _) rfl) <| wl_h hS34.toHeld (r_move (v := .slice _ _ _) rfl) ?_
 obtain ⟨r35, hq36, hM⟩ := bnd_ok hM
 refine wl_call ent9 (vals := [.int .i64 _, .slice _ _ _]) rfl (cg9 hS34 hr9 hq36) ?_
 rintro _ w45 ⟨m37, a39, n40, c41, cs42, rfl, hm38, rfl, hrc43, hS46⟩
 have le47 := Mem.le_trans le29 hm38
 replace hr4 := RSl.mono RIntK.mono hr4 hm38
 replace hr9 := RSl.mono RIntK.mono hr9 hm38
 replace hrc19 := RCs.mono RStop.mono hrc19 hm38
 replace hrc25 := RCs.mono (RS.mono RInt.mono) hrc25 hm38
 refine wl_h hS46.toHeld (r_len Try.underlying24 (a := _) (n := _) (c := _) rfl) <| wl_h hS46.toHeld (r_move (v := .int .i64 _) rfl) <| wl_nil <| c_block <| c_loop (fun k f w => ∃ (x453 : Int), mg4_l0 fuel r11 r35 k x453 = some r ∧ St w m37 (.row (.slice a39 r35.length c41) 35 1 cs42 :: .box b30 26 [.slice a15 r11.stops.length c17, .slice a21 r11.minutes.length c23, .int .i64 r11.cap, .int .i64 r11.start, .int .i64 r11.back] :: .row (.slice a15 r11.stops.length c17) 34 5 cs18 :: .row (.slice a21 r11.minutes.length c23) 35 1 cs24 :: L) ∧ f 5 = .pointer (some ⟨b30, 0, none⟩) ∧ f 25 = .slice a39 r35.length c41 ∧ f 26 = .int .i64 ((r35.length : Nat) : Int) ∧ f 27 = .int .i64 x453) fuel ⟨0, hM, hS46, rfl, rfl, rfl, rfl⟩ ?_
 rintro k_0 f454 w455 ⟨x453, hM, hS457, e458, e459, e460, e461⟩
 refine c_know (t := 5) e458 <| c_know (t := 25) e459 <| c_know (t := 26) e460 <| c_know (t := 27) e461 ?_
 clear e458 e459 e460 e461
 rcases k_0 with _ | k_0
 · exact none_ne hM
 rw [mg4_l0] at hM
 refine c_seq <| c_region <| wl_h hS457.toHeld (r_lss (a := _) (b := _) rfl rfl) <| wl_nil <| c_seq <| c_cond (c := _) rfl (fun h462 => ?_) (fun h462 => ?_)
 ·replace hM := bif_t h462 hM
  refine c_skip <| c_seq <| c_block <| c_seq <| c_region ?_
  obtain ⟨x463, hx464, h465, h466, hM⟩ := getK_ok hM
  obtain ⟨b467, rfl⟩ := row_some (hS457.toHeld.own .here) hrc43 (by decide) h465 h466
  obtain ⟨es468, hes469, hR470⟩ := row_read hrc43 hx464
  obtain ⟨a471, n472, c473, rfl, hr474⟩ := hR470
  obtain rfl := hr474.1
  refine wl_h hS457.toHeld (r_indexAddr Try.underlying24 ty35 (b := _) (o := _) (n := _) (c := _) (i := x453) rfl rfl h465 (row_lt (hS457.toHeld.own .here) hrc43 (by decide) h466)) <| wl_h hS457.toHeld (r_row ty35 (k := 0) (i := x453.toNat) .here rfl rfl (row_room hrc43 hx464) hes469 rfl (v := .slice _ _ _) rfl) <| wl_h hS457.toHeld (r_assign (v := .slice _ _ _) rfl) <| wl_nil <| c_seq <| c_region <| wl_h hS457.toHeld (r_box ty26 (k := 0) (.there .here) rfl rfl rfl (v := .agg #[.slice _ _ _, .slice _ _ _, .int .i64 _, .int .i64 _, .int .i64 _]) rfl) ?_
  refine wl_h hS457.toHeld (r_move (v := .slice _ _ _) rfl) ?_
  obtain ⟨m475, hm476, hS477, hr478, back479⟩ := hS457.lend (.there (.there .here)) hrc19 RStop.mono (by decide)
  have le480 := hm476
  have hrc481 := RCs.mono (RS.mono RInt.mono) hrc43 hm476
  have hrc482 := RCs.mono (RS.mono RInt.mono) hrc25 hm476
  obtain ⟨m483, hm484, hS485, hr486, back487⟩ := hS477.lend (.there (.there .here)) hrc482 (RS.mono RInt.mono) (by decide)
  have le488 := Mem.le_trans le480 hm484
  have hr489 := RSl.mono RStop.mono hr478 hm484
  have hrc490 := RCs.mono (RS.mono RInt.mono) hrc481 hm484
  obtain ⟨r491, hq492, hM⟩ := bnd_ok hM
  refine wl_call ent10 (vals := [.agg #[.slice _ _ _, .slice _ _ _, .int .i64 _, .int .i64 _, .int .i64 _], .slice _ _ _]) rfl (cg10 hS485 ⟨_, _, _, _, _, _, rfl, hr489, hr486⟩ (RSl.mono RInt.mono hr474 le488) hq492) ?_
  rintro _ w506 ⟨a494, n495, c496, cs497, a500, n501, c502, cs503, rfl, rfl, hrc498, rfl, hrc504, hS507⟩
  have hS508 := back487 _ _ hS507
  have hS509 := back479 _ _ hS508
  have hrc510 := RCs.move (m' := m37) RInt.any hrc498
  have hrc511 := RCs.move (m' := m37) RInt.any hrc504
  refine wl_h hS509.toHeld (r_move (v := .tuple #[.agg #[.slice _ _ _, .int .i64 _, .int .i64 _], .slice _ _ _, .int .i64 _]) rfl) <| wl_h hS509.toHeld (r_extract (vs := [.agg #[.slice _ _ _, .int .i64 _, .int .i64 _], .slice _ _ _, .int .i64 _]) rfl (v := .agg #[.slice _ _ _, .int .i64 _, .int .i64 _]) rfl) <| wl_h hS509.toHeld (r_extract (vs := [.agg #[.slice _ _ _, .int .i64 _, .int .i64 _], .slice _ _ _, .int .i64 _]) rfl (v := .slice _ _ _) rfl) <| wl_h hS509.toHeld (r_extract (vs := [.agg #[.slice _ _ _, .int .i64 _, .int .i64 _], .slice _ _ _, .int .i64 _]) rfl (v := .int .i64 _) rfl) <| wl_alloc ty42 rfl hS509 ?_
  intro b512 w513 hS514
  refine wl_store_box ty42 hS514 rfl (v := .agg #[.slice _ _ _, .int .i64 _, .int .i64 _]) rfl (vs := [.slice _ _ _, .int .i64 _, .int .i64 _]) rfl rfl rfl .here (cs' := [.slice _ _ _, .int .i64 _, .int .i64 _]) rfl rfl ?_
  intro w515 hS516
  refine wl_h hS516.toHeld (r_assign (v := .slice _ _ _) rfl) <| wl_h hS516.toHeld (r_assign (v := .int .i64 _) rfl) <| wl_nil <| c_seq <| c_region <| wl_h hS516.toHeld (r_box ty26 (k := 0) (.there (.there (.there (.there (.there (.there .here)))))) rfl rfl rfl (v := .agg #[.slice _ _ _, .slice _ _ _, .int .i64 _, .int .i64 _, .int .i64 _]) rfl) ?_
  refine wl_h hS516.toHeld (r_move (v := .slice _ _ _) rfl) ?_
  obtain ⟨m517, hm518, hS519, hr520, back521⟩ := hS516.lend (.there .here) hrc19 RStop.mono (by decide)
  have le522 := hm518
  have hrc523 := RCs.mono (RS.mono RInt.mono) hrc25 hm518
  have hrc524 := RCs.mono RInt.mono hrc510 hm518
  have hrc525 := RCs.mono RInt.mono hrc511 hm518
  have hrc526 := RCs.mono (RS.mono RInt.mono) hrc43 hm518
  obtain ⟨m527, hm528, hS529, hr530, back531⟩ := hS519.lend (.there .here) hrc523 (RS.mono RInt.mono) (by decide)
  have le532 := Mem.le_trans le522 hm528
  have hr533 := RSl.mono RStop.mono hr520 hm528
  have hrc534 := RCs.mono RInt.mono hrc524 hm528
  have hrc535 := RCs.mono RInt.mono hrc525 hm528
  have hrc536 := RCs.mono (RS.mono RInt.mono) hrc526 hm528
  obtain ⟨r537, hq538, hM⟩ := bnd_ok hM
  refine wl_call ent12 (vals := [.agg #[.slice _ _ _, .slice _ _ _, .int .i64 _, .int .i64 _, .int .i64 _], .slice _ _ _]) rfl (cg12 hS529 ⟨_, _, _, _, _, _, rfl, hr533, hr530⟩ (RSl.mono RInt.mono hr474 le532) hq538) ?_
  rintro _ w540 ⟨rfl, hS541⟩
  have hS542 := back531 _ _ hS541
  have hS543 := back521 _ _ hS542
  refine wl_h hS543.toHeld (r_move (v := .tuple #[.int .i64 _, .int .i64 _]) rfl) <| wl_h hS543.toHeld (r_extract (vs := [.int .i64 _, .int .i64 _]) rfl (v := .int .i64 _) rfl) <| wl_h hS543.toHeld (r_extract (vs := [.int .i64 _, .int .i64 _]) rfl (v := .int .i64 _) rfl) <| wl_h hS543.toHeld (r_assign (v := .int .i64 _) rfl) <| wl_h hS543.toHeld (r_assign (v := .int .i64 _) rfl) ?_
  refine wl_nil <| c_seq <| c_seq <| c_region <| wl_h hS543.toHeld (r_move (v := .int .i64 _) rfl) ?_
  refine wl_h hS543.toHeld (r_move (v := .int .i64 _) rfl) <| wl_h hS543.toHeld (r_neq (a := _) (b := _) rfl rfl) <| wl_nil <| c_cond (c := _) rfl (fun h544 => ?_) (fun h544 => ?_)
  ·replace hM := bif_t h544 hM
   refine c_seq <| c_region <| wl_h hS543.toHeld (r_assign (v := .bool _) rfl) <| wl_nil <| c_ret <| q_retb ?_
   refine q_retl <| q_retb <| ret_tmp (t := 4) rfl (v := .bool _) rfl ?_
   obtain rfl := some_eq hM
   have hS545 := hS543.weaken (.cons _ (.cons _ (.cons _ (.cons _ (.cons _ (.cons _ (.cons _ (.refl _))))))))
   exact ⟨rfl, (St.back hS545 le47)⟩
  ·replace hM := bif_f h544 hM
   refine c_skip <| c_seq <| c_seq <| c_region <| wl_h hS543.toHeld (r_move (v := .int .i64 _) rfl) ?_
   refine wl_h hS543.toHeld (r_neq (a := _) (b := _) rfl rfl) <| wl_nil <| c_cond (c := _) rfl (fun h546 => ?_) (fun h546 => ?_)
   ·replace hM := bif_t h546 hM
    refine c_exit <| q_hit <| c_region ?_
    obtain ⟨hc547, hM⟩ := chk_ok hM
    refine wl_h hS543.toHeld (r_add (a := _) (b := _) rfl rfl (ok_lo hc547) (ok_hi hc547)) <| wl_h hS543.toHeld (r_move (v := .int .i64 _) rfl) <| wl_nil <| c_nil <| q_loop ?_
    have hS548 := hS543.weaken (.cons_cons _ (.cons_cons _ (.cons _ (.cons _ (.cons _ (.cons_cons _ (.cons_cons _ (.refl _))))))))
    have hS549 := hS548.front (.there .here)
    have hS550 := hS549.front (.there .here)
    have hS551 := hS550.front (.there (.there (.there .here)))
    have hS552 := hS551.front (.there (.there (.there .here)))
    exact ⟨k_0, Nat.lt_succ_self _, x453 + 1, hM, hS552, rfl, rfl, rfl, rfl⟩
   ·replace hM := bif_f h546 hM
    refine c_skip <| c_seq <| c_seq <| c_region <| wl_h hS543.toHeld (r_move (v := .int .i64 _) rfl) ?_
    refine wl_h hS543.toHeld (r_lss (a := _) (b := _) rfl rfl) <| wl_h hS543.toHeld (r_move (v := .bool _) rfl) <| wl_split rfl (c := _) (t := 51) (fun h553 => ?_) (fun h553 => ?_)
    ·replace hM := bif_t h553 hM
     refine wl_off (t := 51) (b := true) rfl rfl rfl ?_
     refine wl_off (t := 51) (b := true) rfl rfl rfl ?_
     refine wl_off (t := 51) (b := true) rfl rfl rfl ?_
     refine wl_off (t := 51) (b := true) rfl rfl rfl ?_
     refine wl_off (t := 51) (b := true) rfl rfl rfl ?_
     refine wl_h hS543.toHeld (r_pick_t rfl (v := .bool _) rfl) <| wl_nil <| c_true rfl <| c_seq <| c_region <| wl_h hS543.toHeld (r_assign (v := .bool _) rfl) ?_
     refine wl_nil <| c_ret <| q_retb <| q_retl <| q_retb ?_
     refine ret_tmp (t := 4) rfl (v := .bool _) rfl ?_
     obtain rfl := some_eq hM
     have hS554 := hS543.weaken (.cons _ (.cons _ (.cons _ (.cons _ (.cons _ (.cons _ (.cons _ (.refl _))))))))
     exact ⟨rfl, (St.back hS554 le47)⟩
    ·replace hM := bif_f h553 hM
     refine wl_on (t := 51) rfl rfl ?_
     refine wl_h hS543.toHeld (r_fieldAddr fld42_1 (b := _) (o := _) rfl) <| wl_on (t := 51) rfl rfl ?_
     refine wl_h hS543.toHeld (r_box ty3 (k := 1) (.there (.there .here)) rfl rfl rfl (v := .int .i64 _) rfl) <| wl_on (t := 51) rfl rfl ?_
     refine wl_h hS543.toHeld (r_move (v := .int .i64 _) rfl) <| wl_on (t := 51) rfl rfl ?_
     obtain ⟨hc555, hM⟩ := chk_ok hM
     refine wl_h hS543.toHeld (r_add (a := _) (b := _) rfl rfl (ok_lo hc555) (ok_hi hc555)) <| wl_on (t := 51) rfl rfl ?_
     refine wl_h hS543.toHeld (r_gtr (a := _) (b := _) rfl rfl) <| wl_h hS543.toHeld (r_pick_f rfl (v := .bool _) rfl) <| wl_nil <| c_cond (c := _) rfl (fun h556 => ?_) (fun h556 => ?_)
     ·replace hM := bif_t h556 hM
      refine c_seq <| c_region <| wl_h hS543.toHeld (r_assign (v := .bool _) rfl) <| wl_nil <| c_ret <| q_retb ?_
      refine q_retl <| q_retb <| ret_tmp (t := 4) rfl (v := .bool _) rfl ?_
      obtain rfl := some_eq hM
      have hS557 := hS543.weaken (.cons _ (.cons _ (.cons _ (.cons _ (.cons _ (.cons _ (.cons _ (.refl _))))))))
      exact ⟨rfl, (St.back hS557 le47)⟩
     ·replace hM := bif_f h556 hM
      refine c_skip <| c_seq <| c_region <| wl_h hS543.toHeld (r_box ty26 (k := 0) (.there (.there (.there (.there (.there (.there .here)))))) rfl rfl rfl (v := .agg #[.slice _ _ _, .slice _ _ _, .int .i64 _, .int .i64 _, .int .i64 _]) rfl) <| wl_alloc ty26 rfl hS543 ?_
      intro b558 w559 hS560
      refine wl_store_box ty26 hS560 rfl (v := .agg #[.slice _ _ _, .slice _ _ _, .int .i64 _, .int .i64 _, .int .i64 _]) rfl (vs := [.slice _ _ _, .slice _ _ _, .int .i64 _, .int .i64 _, .int .i64 _]) rfl rfl rfl .here (cs' := [.slice _ _ _, .slice _ _ _, .int .i64 _, .int .i64 _, .int .i64 _]) rfl rfl ?_
      intro w561 hS562
      refine wl_nil <| c_seq <| c_region <| wl_h hS562.toHeld (r_fieldAddr fld26_0 (b := _) (o := _) rfl) <| wl_h hS562.toHeld (r_box ty23 (k := 0) (.there (.there (.there (.there (.there (.there (.there .here))))))) rfl rfl rfl (v := .slice _ _ _) rfl) ?_
      obtain ⟨m563, hm564, hS565, hr566, back567⟩ := hS562.lend (.there .here) hrc19 RStop.mono (by decide)
      have le568 := hm564
      have hrc569 := RCs.mono (RS.mono RInt.mono) hrc25 hm564
      have hrc570 := RCs.mono RInt.mono hrc510 hm564
      have hrc571 := RCs.mono RInt.mono hrc511 hm564
      have hrc572 := RCs.mono (RS.mono RInt.mono) hrc43 hm564
      obtain ⟨r573, hq574, hM⟩ := bnd_ok hM
      refine wl_call ent13 (vals := [.slice _ _ _]) rfl (cg13 hS565 hr566 hq574) ?_
      rintro _ w582 ⟨a576, n577, c578, cs579, rfl, rfl, hrc580, hS583⟩
      have hS584 := back567 _ _ hS583
      have hrc585 := RCs.move (m' := m37) RStop.any hrc580
      refine wl_h hS584.toHeld (r_fieldAddr fld26_0 (b := _) (o := _) rfl) <| wl_store_box ty23 hS584 rfl (v := .slice _ _ _) rfl (vs := [.slice _ _ _]) rfl rfl rfl (.there (.there .here)) (cs' := [.slice _ _ _, .slice _ _ _, .int .i64 _, .int .i64 _, .int .i64 _]) rfl rfl ?_
      intro w586 hS587
      refine wl_nil <| c_seq ?_
      have hH639 := (hS587.weaken (.cons_cons _ (.cons _ (.cons _ (.cons_cons _ (.cons_cons _ (.cons_cons _ (.cons_cons _ (.cons_cons _ (.cons_cons _ (.refl _))))))))))).toHeld
      refine c_draw (k := 12) (fun w => Held w m37 (.row (.slice a15 r11.stops.length c17) 34 5 cs18 :: .row (.slice a21 r11.minutes.length c23) 35 1 cs24 :: .box b512 42 [.slice a494 r491.1.stops.length c496, .int .i64 r491.1.leave, .int .i64 r491.1.fin] :: .row (.slice a494 r491.1.stops.length c496) 3 1 cs497 :: .row (.slice a500 r491.2.1.length c502) 3 1 cs503 :: .row (.slice (some ⟨b467, 0, none⟩) r35.length c41) 35 1 cs42 :: .box b30 26 [.slice a15 r11.stops.length c17, .slice a21 r11.minutes.length c23, .int .i64 r11.cap, .int .i64 r11.start, .int .i64 r11.back] :: L)) mixed rfl ?_
      replace hH639 := hH639.drew1
      have hS640 := hS587.drew1
      refine d_v (i := 0) rfl (by kernel_rfl) rfl (r_fieldAddr fld26_0 (b := _) (o := _) rfl) hH639 ?_
      refine d_v (i := 2) rfl (by kernel_rfl) rfl (r_move (v := .slice _ _ _) rfl) hH639 ?_
      obtain ⟨x641, hx642, h643, h644, hM⟩ := getK_ok hM
      obtain ⟨b645, o646, rfl⟩ := RSl.elem_a hr474 hx642
      obtain ⟨cs647, hI648, hR649⟩ := RSl.elem_at hr474 hx642
      obtain rfl := hR649
      refine d_v (i := 3) rfl (by kernel_rfl) rfl (r_indexAddr Try.underlying35 ty3 (b := _) (o := _) (n := _) (c := _) (i := 0) rfl rfl h643 (RSl.lt hr474 h644)) hH639 ?_
      refine d_v (i := 4) rfl (by kernel_rfl) rfl (r_imm ty3 (k := 0) hI648 rfl rfl rfl (v := .int .i64 _) rfl) hH639 ?_
      refine d_v (i := 5) rfl (by kernel_rfl) rfl (r_fieldAddr fld42_1 (b := _) (o := _) rfl) hH639 ?_
      refine d_v (i := 6) rfl (by kernel_rfl) rfl (r_box ty3 (k := 1) (.there (.there .here)) rfl rfl rfl (v := .int .i64 _) rfl) hH639 ?_
      refine d_v (i := 7) rfl (by kernel_rfl) rfl (r_move (v := .int .i64 _) rfl) hH639 ?_
      obtain ⟨hc650, hM⟩ := chk_ok hM
      refine d_v (i := 8) rfl (by kernel_rfl) rfl (r_add (a := _) (b := _) rfl rfl (ok_lo hc650) (ok_hi hc650)) hH639 ?_
      refine d_all (rs := [1]) (by kernel_rfl) (by simp) (fun j hj o ho => ?_)
      obtain rfl : j = 1 := by simpa using hj
      cases ho
      refine wl_h hS640.toHeld (r_box ty23 (k := 0) (.there (.there .here)) rfl rfl rfl (v := .slice _ _ _) rfl) <| wl_nil ?_
      have hH651 := hS640.toHeld.mono (Mem.le_refl _) (List.Sublist.subset (.cons_cons _ (.cons _ (.cons _ (.cons_cons _ (.cons_cons _ (.cons_cons _ (.cons_cons _ (.cons_cons _ (.cons_cons _ (.refl _)))))))))))
      refine ⟨hH651, ?_⟩
      obtain ⟨x652, hx653, h654, h655, hM⟩ := getK_ok hM
      obtain ⟨b656, rfl⟩ := row_some (hS640.toHeld.own (.there .here)) hrc585 (by decide) h654 h655
      obtain ⟨es657, hes658, hR659⟩ := row_read hrc585 hx653
      obtain rfl := hR659
      refine d_v (i := 9) rfl (by kernel_rfl) rfl (r_indexAddr Try.underlying23 ty34 (b := _) (o := _) (n := _) (c := _) (i := x641) rfl rfl h654 (row_lt (hS640.toHeld.own (.there .here)) hrc585 (by decide) h655)) hH651 ?_
      refine d_v (i := 10) rfl (by kernel_rfl) rfl (r_fieldAddr fld34_1 (b := _) (o := _) rfl) hH651 ?_
      refine d_all (rs := [11]) (by kernel_rfl) (by simp) (fun j hj o ho => ?_)
      obtain rfl : j = 11 := by simpa using hj
      cases ho
      refine wl_store_row ty3 hS640 rfl (v := .int .i64 _) rfl (vs := [.int .i64 _]) rfl rfl rfl (.there .here) (Nat.le_trans (by simp only [Nat.zero_add]; omega) (row_room hrc585 hx653)) ?_
      intro w660 hS661
      have hrc662 := RCs.setp hrc585 hx653 (k := 1) (vs := [.int .i64 (r491.1.leave + r537.1)]) hes658 (Nat.le_of_ble_eq_true rfl) rfl (y := (⟨x652.load, r491.1.leave + r537.1, x652.opn, x652.close, x652.serve⟩ : Stop)) rfl
      generalize spl cs579 (0 + x641.toNat * 5 + 1) [.int .i64 (r491.1.leave + r537.1)] = cs663 at hS661 hrc662
      refine wl_nil ?_
      have hH664 := hS661.toHeld.mono (Mem.le_refl _) (List.Sublist.subset (.cons_cons _ (.cons _ (.cons _ (.cons_cons _ (.cons_cons _ (.cons_cons _ (.cons_cons _ (.cons_cons _ (.cons_cons _ (.refl _)))))))))))
      refine ⟨hH664, ?_⟩
      refine d_end (by kernel_rfl) ?_
      refine c_seq <| c_region <| wl_h hS661.toHeld (r_box ty26 (k := 0) (.there (.there .here)) rfl rfl rfl (v := .agg #[.slice _ _ _, .slice _ _ _, .int .i64 _, .int .i64 _, .int .i64 _]) rfl) <| wl_h hS661.toHeld (r_move (v := .slice _ _ _) rfl) ?_
      obtain ⟨m665, hm666, hS667, hr668, back669⟩ := hS661.lend (.there .here) hrc662 RStop.mono (by decide)
      have le670 := hm666
      have hrc671 := RCs.mono RStop.mono hrc19 hm666
      have hrc672 := RCs.mono (RS.mono RInt.mono) hrc25 hm666
      have hrc673 := RCs.mono RInt.mono hrc510 hm666
      have hrc674 := RCs.mono RInt.mono hrc511 hm666
      have hrc675 := RCs.mono (RS.mono RInt.mono) hrc43 hm666
      obtain ⟨m676, hm677, hS678, hr679, back680⟩ := hS667.lend (.there (.there .here)) hrc672 (RS.mono RInt.mono) (by decide)
      have le681 := Mem.le_trans le670 hm677
      have hr682 := RSl.mono RStop.mono hr668 hm677
      have hrc683 := RCs.mono RStop.mono hrc671 hm677
      have hrc684 := RCs.mono RInt.mono hrc673 hm677
      have hrc685 := RCs.mono RInt.mono hrc674 hm677
      have hrc686 := RCs.mono (RS.mono RInt.mono) hrc675 hm677
      obtain ⟨r687, hq688, hM⟩ := bnd_ok hM
      refine wl_call ent10 (vals := [.agg #[.slice _ _ _, .slice _ _ _, .int .i64 _, .int .i64 _, .int .i64 _], .slice _ _ _]) rfl (cg10 hS678 (show RFleet _ _ (⟨(r573.set x641.toNat (⟨x652.load, r491.1.leave + r537.1, x652.opn, x652.close, x652.serve⟩ : Stop)), r11.minutes, r11.cap, r11.start, r11.back⟩ : Fleet) from ⟨_, _, _, _, _, _, rfl, hr682, hr679⟩) (RSl.mono RInt.mono hr474 le681) hq688) ?_
      rintro _ w702 ⟨a690, n691, c692, cs693, a696, n697, c698, cs699, rfl, rfl, hrc694, rfl, hrc700, hS703⟩
      have hS704 := back680 _ _ hS703
      have hS705 := back669 _ _ hS704
      have hrc706 := RCs.move (m' := m37) RInt.any hrc694
      have hrc707 := RCs.move (m' := m37) RInt.any hrc700
      refine wl_h hS705.toHeld (r_move (v := .tuple #[.agg #[.slice _ _ _, .int .i64 _, .int .i64 _], .slice _ _ _, .int .i64 _]) rfl) <| wl_h hS705.toHeld (r_extract (vs := [.agg #[.slice _ _ _, .int .i64 _, .int .i64 _], .slice _ _ _, .int .i64 _]) rfl (v := .agg #[.slice _ _ _, .int .i64 _, .int .i64 _]) rfl) <| wl_h hS705.toHeld (r_extract (vs := [.agg #[.slice _ _ _, .int .i64 _, .int .i64 _], .slice _ _ _, .int .i64 _]) rfl (v := .slice _ _ _) rfl) <| wl_h hS705.toHeld (r_extract (vs := [.agg #[.slice _ _ _, .int .i64 _, .int .i64 _], .slice _ _ _, .int .i64 _]) rfl (v := .int .i64 _) rfl) <| wl_alloc ty42 rfl hS705 ?_
      intro b708 w709 hS710
      refine wl_store_box ty42 hS710 rfl (v := .agg #[.slice _ _ _, .int .i64 _, .int .i64 _]) rfl (vs := [.slice _ _ _, .int .i64 _, .int .i64 _]) rfl rfl rfl .here (cs' := [.slice _ _ _, .int .i64 _, .int .i64 _]) rfl rfl ?_
      intro w711 hS712
      refine wl_h hS712.toHeld (r_assign (v := .slice _ _ _) rfl) <| wl_h hS712.toHeld (r_assign (v := .int .i64 _) rfl) <| wl_nil <| c_seq <| c_seq <| c_region <| wl_h hS712.toHeld (r_move (v := .int .i64 _) rfl) ?_
      refine wl_h hS712.toHeld (r_neq (a := _) (b := _) rfl rfl) <| wl_h hS712.toHeld (r_move (v := .bool _) rfl) <| wl_split rfl (c := _) (t := 83) (fun h713 => ?_) (fun h713 => ?_)
      ·replace hM := bif_t h713 hM
       refine wl_off (t := 83) (b := true) rfl rfl rfl ?_
       refine wl_off (t := 83) (b := true) rfl rfl rfl ?_
       refine wl_off (t := 83) (b := true) rfl rfl rfl ?_
       refine wl_off (t := 83) (b := true) rfl rfl rfl ?_
       refine wl_off (t := 83) (b := true) rfl rfl rfl ?_
       refine wl_off (t := 83) (b := true) rfl rfl rfl ?_
       refine wl_off (t := 83) (b := true) rfl rfl rfl ?_
       refine wl_h hS712.toHeld (r_pick_t rfl (v := .bool _) rfl) <| wl_nil <| c_true rfl <| c_seq <| c_region <| wl_h hS712.toHeld (r_assign (v := .bool _) rfl) ?_
       refine wl_nil <| c_ret <| q_retb <| q_retl <| q_retb ?_
       refine ret_tmp (t := 4) rfl (v := .bool _) rfl ?_
       obtain rfl := some_eq hM
       have hS714 := hS712.weaken (.cons _ (.cons _ (.cons _ (.cons _ (.cons _ (.cons _ (.cons _ (.cons _ (.cons _ (.cons _ (.cons _ (.cons _ (.refl _)))))))))))))
       exact ⟨rfl, (St.back hS714 le47)⟩
      ·replace hM := bif_f h713 hM
       refine wl_on (t := 83) rfl rfl ?_
       refine wl_h hS712.toHeld (r_fieldAddr fld42_1 (b := _) (o := _) rfl) <| wl_on (t := 83) rfl rfl ?_
       refine wl_h hS712.toHeld (r_box ty3 (k := 1) .here rfl rfl rfl (v := .int .i64 _) rfl) <| wl_on (t := 83) rfl rfl ?_
       refine wl_h hS712.toHeld (r_fieldAddr fld42_1 (b := _) (o := _) rfl) <| wl_on (t := 83) rfl rfl ?_
       refine wl_h hS712.toHeld (r_box ty3 (k := 1) (.there (.there (.there (.there (.there (.there (.there .here))))))) rfl rfl rfl (v := .int .i64 _) rfl) <| wl_on (t := 83) rfl rfl ?_
       refine wl_h hS712.toHeld (r_move (v := .int .i64 _) rfl) <| wl_on (t := 83) rfl rfl ?_
       obtain ⟨hc715, hM⟩ := chk_ok hM
       refine wl_h hS712.toHeld (r_add (a := _) (b := _) rfl rfl (ok_lo hc715) (ok_hi hc715)) <| wl_on (t := 83) rfl rfl ?_
       refine wl_h hS712.toHeld (r_neq (a := _) (b := _) rfl rfl) <| wl_h hS712.toHeld (r_pick_f rfl (v := .bool _) rfl) <| wl_nil <| c_cond (c := _) rfl (fun h716 => ?_) (fun h716 => ?_)
       ·replace hM := bif_t h716 hM
        refine c_seq <| c_region <| wl_h hS712.toHeld (r_assign (v := .bool _) rfl) <| wl_nil <| c_ret <| q_retb ?_
        refine q_retl <| q_retb <| ret_tmp (t := 4) rfl (v := .bool _) rfl ?_
        obtain rfl := some_eq hM
        have hS717 := hS712.weaken (.cons _ (.cons _ (.cons _ (.cons _ (.cons _ (.cons _ (.cons _ (.cons _ (.cons _ (.cons _ (.cons _ (.cons _ (.refl _)))))))))))))
        exact ⟨rfl, (St.back hS717 le47)⟩
       ·replace hM := bif_f h716 hM
        refine c_skip <| c_seq <| c_seq <| c_region <| wl_h hS712.toHeld (r_fieldAddr fld42_1 (b := _) (o := _) rfl) ?_
        refine wl_h hS712.toHeld (r_box ty3 (k := 1) (.there (.there (.there (.there (.there (.there (.there .here))))))) rfl rfl rfl (v := .int .i64 _) rfl) <| wl_h hS712.toHeld (r_move (v := .int .i64 _) rfl) ?_
        obtain ⟨hc718, hM⟩ := chk_ok hM
        refine wl_h hS712.toHeld (r_add (a := _) (b := _) rfl rfl (ok_lo hc718) (ok_hi hc718)) <| wl_h hS712.toHeld (r_eql (a := _) (b := _) rfl rfl) <| wl_nil <| c_cond (c := _) rfl (fun h719 => ?_) (fun h719 => ?_)
        ·replace hM := bif_t h719 hM
         refine c_exit <| q_hit <| c_region ?_
         obtain ⟨hc720, hM⟩ := chk_ok hM
         refine wl_h hS712.toHeld (r_add (a := _) (b := _) rfl rfl (ok_lo hc720) (ok_hi hc720)) <| wl_h hS712.toHeld (r_move (v := .int .i64 _) rfl) <| wl_nil <| c_nil <| q_loop ?_
         have hS721 := hS712.weaken (.cons _ (.cons _ (.cons_cons _ (.cons _ (.cons _ (.cons_cons _ (.cons _ (.cons _ (.cons _ (.cons _ (.cons_cons _ (.cons_cons _ (.refl _)))))))))))))
         have hS722 := hS721.front (.there .here)
         have hS723 := hS722.front (.there (.there (.there .here)))
         have hS724 := hS723.front (.there (.there (.there .here)))
         exact ⟨k_0, Nat.lt_succ_self _, x453 + 1, hM, hS724, rfl, rfl, rfl, rfl⟩
        ·replace hM := bif_f h719 hM
         refine c_skip <| c_seq ?_
         have hH784 := (hS712.weaken (.cons_cons _ (.cons _ (.cons_cons _ (.cons_cons _ (.cons_cons _ (.cons_cons _ (.cons_cons _ (.cons_cons _ (.cons_cons _ (.cons_cons _ (.cons_cons _ (.cons_cons _ (.refl _)))))))))))))).toHeld
         refine c_draw (k := 12) (fun w => Held w m37 (.box b708 42 [.slice a690 r687.1.stops.length c692, .int .i64 r687.1.leave, .int .i64 r687.1.fin] :: .row (.slice a21 r11.minutes.length c23) 35 1 cs24 :: .row (.slice a690 r687.1.stops.length c692) 3 1 cs693 :: .row (.slice a696 r687.2.1.length c698) 3 1 cs699 :: .row (.slice a15 r11.stops.length c17) 34 5 cs18 :: .box b558 26 [.slice (some ⟨b656, 0, none⟩) r573.length c578, .slice a21 r11.minutes.length c23, .int .i64 r11.cap, .int .i64 r11.start, .int .i64 r11.back] :: .box b512 42 [.slice a494 r491.1.stops.length c496, .int .i64 r491.1.leave, .int .i64 r491.1.fin] :: .row (.slice a494 r491.1.stops.length c496) 3 1 cs497 :: .row (.slice a500 r491.2.1.length c502) 3 1 cs503 :: .row (.slice (some ⟨b467, 0, none⟩) r35.length c41) 35 1 cs42 :: .box b30 26 [.slice a15 r11.stops.length c17, .slice a21 r11.minutes.length c23, .int .i64 r11.cap, .int .i64 r11.start, .int .i64 r11.back] :: L)) mixed rfl ?_
         replace hH784 := hH784.drew1
         have hS785 := hS712.drew1
         refine d_v (i := 0) rfl (by kernel_rfl) rfl (r_fieldAddr fld26_0 (b := _) (o := _) rfl) hH784 ?_
         refine d_v (i := 1) rfl (by kernel_rfl) rfl (r_box ty23 (k := 0) (.there (.there (.there (.there (.there .here))))) rfl rfl rfl (v := .slice _ _ _) rfl) hH784 ?_
         refine d_v (i := 2) rfl (by kernel_rfl) rfl (r_move (v := .slice _ _ _) rfl) hH784 ?_
         obtain ⟨x786, hx787, h788, h789, hM⟩ := getK_ok hM
         obtain ⟨cs790, hI791, hR792⟩ := RSl.elem_at hr474 hx787
         obtain rfl := hR792
         refine d_v (i := 3) rfl (by kernel_rfl) rfl (r_indexAddr Try.underlying35 ty3 (b := _) (o := _) (n := _) (c := _) (i := 0) rfl rfl h788 (RSl.lt hr474 h789)) hH784 ?_
         refine d_v (i := 4) rfl (by kernel_rfl) rfl (r_imm ty3 (k := 0) hI791 rfl rfl rfl (v := .int .i64 _) rfl) hH784 ?_
         obtain ⟨x793, hx794, h795, h796, hM⟩ := getK_ok hM
         obtain ⟨es797, hes798, hR799⟩ := row_read hrc662 hx794
         obtain rfl := hR799
         refine d_v (i := 5) rfl (by kernel_rfl) rfl (r_indexAddr Try.underlying23 ty34 (b := _) (o := _) (n := _) (c := _) (i := x786) rfl rfl h795 (row_lt (hS785.toHeld.own (.there .here)) hrc662 (by decide) h796)) hH784 ?_
         refine d_v (i := 6) rfl (by kernel_rfl) rfl (r_fieldAddr fld34_1 (b := _) (o := _) rfl) hH784 ?_
         refine d_all (rs := [7]) (by kernel_rfl) (by simp) (fun j hj o ho => ?_)
         obtain rfl : j = 7 := by simpa using hj
         cases ho
         refine wl_h hS785.toHeld (r_row ty3 (k := 1) (i := x786.toNat) (.there .here) rfl rfl (row_room hrc662 hx794) hes798 rfl (v := .int .i64 _) rfl) <| wl_nil ?_
         have hH800 := hS785.toHeld.mono (Mem.le_refl _) (List.Sublist.subset (.cons_cons _ (.cons _ (.cons_cons _ (.cons_cons _ (.cons_cons _ (.cons_cons _ (.cons_cons _ (.cons_cons _ (.cons_cons _ (.cons_cons _ (.cons_cons _ (.cons_cons _ (.refl _))))))))))))))
         refine ⟨hH800, ?_⟩
         obtain ⟨hc801, hM⟩ := chk_ok hM
         refine d_v (i := 8) rfl (by kernel_rfl) rfl (r_add (a := _) (b := _) rfl rfl (ok_lo hc801) (ok_hi hc801)) hH800 ?_
         obtain ⟨x802, hx803, h804, h805, hM⟩ := getK_ok hM
         obtain ⟨es806, hes807, hR808⟩ := row_read hrc662 hx803
         obtain rfl := hR808
         refine d_v (i := 9) rfl (by kernel_rfl) rfl (r_indexAddr Try.underlying23 ty34 (b := _) (o := _) (n := _) (c := _) (i := x786) rfl rfl h804 (row_lt (hS785.toHeld.own (.there .here)) hrc662 (by decide) h805)) hH800 ?_
         refine d_v (i := 10) rfl (by kernel_rfl) rfl (r_fieldAddr fld34_1 (b := _) (o := _) rfl) hH800 ?_
         refine d_all (rs := [11]) (by kernel_rfl) (by simp) (fun j hj o ho => ?_)
         obtain rfl : j = 11 := by simpa using hj
         cases ho
         refine wl_store_row ty3 hS785 rfl (v := .int .i64 _) rfl (vs := [.int .i64 _]) rfl rfl rfl (.there .here) (Nat.le_trans (by simp only [Nat.zero_add]; omega) (row_room hrc662 hx803)) ?_
         intro w809 hS810
         have hrc811 := RCs.setp hrc662 hx803 (k := 1) (vs := [.int .i64 (x793.ready + 1)]) hes807 (Nat.le_of_ble_eq_true rfl) rfl (y := (⟨x802.load, x793.ready + 1, x802.opn, x802.close, x802.serve⟩ : Stop)) rfl
         generalize spl cs663 (0 + x786.toNat * 5 + 1) [.int .i64 (x793.ready + 1)] = cs812 at hS810 hrc811
         refine wl_nil ?_
         have hH813 := hS810.toHeld.mono (Mem.le_refl _) (List.Sublist.subset (.cons_cons _ (.cons _ (.cons_cons _ (.cons_cons _ (.cons_cons _ (.cons_cons _ (.cons_cons _ (.cons_cons _ (.cons_cons _ (.cons_cons _ (.cons_cons _ (.cons_cons _ (.refl _))))))))))))))
         refine ⟨hH813, ?_⟩
         refine d_end (by kernel_rfl) ?_
         refine c_seq <| c_region <| wl_h hS810.toHeld (r_box ty26 (k := 0) (.there (.there (.there (.there (.there (.there .here)))))) rfl rfl rfl (v := .agg #[.slice _ _ _, .slice _ _ _, .int .i64 _, .int .i64 _, .int .i64 _]) rfl) <| wl_h hS810.toHeld (r_move (v := .slice _ _ _) rfl) ?_
         obtain ⟨m814, hm815, hS816, hr817, back818⟩ := hS810.lend (.there .here) hrc811 RStop.mono (by decide)
         have le819 := hm815
         have hrc820 := RCs.mono (RS.mono RInt.mono) hrc25 hm815
         have hrc821 := RCs.mono RInt.mono hrc706 hm815
         have hrc822 := RCs.mono RInt.mono hrc707 hm815
         have hrc823 := RCs.mono RStop.mono hrc19 hm815
         have hrc824 := RCs.mono RInt.mono hrc510 hm815
         have hrc825 := RCs.mono RInt.mono hrc511 hm815
         have hrc826 := RCs.mono (RS.mono RInt.mono) hrc43 hm815
         obtain ⟨m827, hm828, hS829, hr830, back831⟩ := hS816.lend (.there .here) hrc820 (RS.mono RInt.mono) (by decide)
         have le832 := Mem.le_trans le819 hm828
         have hr833 := RSl.mono RStop.mono hr817 hm828
         have hrc834 := RCs.mono RInt.mono hrc821 hm828
         have hrc835 := RCs.mono RInt.mono hrc822 hm828
         have hrc836 := RCs.mono RStop.mono hrc823 hm828
         have hrc837 := RCs.mono RInt.mono hrc824 hm828
         have hrc838 := RCs.mono RInt.mono hrc825 hm828
         have hrc839 := RCs.mono (RS.mono RInt.mono) hrc826 hm828
         obtain ⟨r840, hq841, hM⟩ := bnd_ok hM
         refine wl_call ent10 (vals := [.agg #[.slice _ _ _, .slice _ _ _, .int .i64 _, .int .i64 _, .int .i64 _], .slice _ _ _]) rfl (cg10 hS829 (show RFleet _ _ (⟨((r573.set x641.toNat (⟨x652.load, r491.1.leave + r537.1, x652.opn, x652.close, x652.serve⟩ : Stop)).set x786.toNat (⟨x802.load, x793.ready + 1, x802.opn, x802.close, x802.serve⟩ : Stop)), r11.minutes, r11.cap, r11.start, r11.back⟩ : Fleet) from ⟨_, _, _, _, _, _, rfl, hr833, hr830⟩) (RSl.mono RInt.mono hr474 le832) hq841) ?_
         rintro _ w855 ⟨a843, n844, c845, cs846, a849, n850, c851, cs852, rfl, rfl, hrc847, rfl, hrc853, hS856⟩
         have hS857 := back831 _ _ hS856
         have hS858 := back818 _ _ hS857
         have hrc859 := RCs.move (m' := m37) RInt.any hrc847
         have hrc860 := RCs.move (m' := m37) RInt.any hrc853
         refine wl_h hS858.toHeld (r_move (v := .tuple #[.agg #[.slice _ _ _, .int .i64 _, .int .i64 _], .slice _ _ _, .int .i64 _]) rfl) <| wl_h hS858.toHeld (r_extract (vs := [.agg #[.slice _ _ _, .int .i64 _, .int .i64 _], .slice _ _ _, .int .i64 _]) rfl (v := .agg #[.slice _ _ _, .int .i64 _, .int .i64 _]) rfl) <| wl_h hS858.toHeld (r_extract (vs := [.agg #[.slice _ _ _, .int .i64 _, .int .i64 _], .slice _ _ _, .int .i64 _]) rfl (v := .slice _ _ _) rfl) <| wl_h hS858.toHeld (r_extract (vs := [.agg #[.slice _ _ _, .int .i64 _, .int .i64 _], .slice _ _ _, .int .i64 _]) rfl (v := .int .i64 _) rfl) <| wl_alloc ty42 rfl hS858 ?_
         intro b861 w862 hS863
         refine wl_store_box ty42 hS863 rfl (v := .agg #[.slice _ _ _, .int .i64 _, .int .i64 _]) rfl (vs := [.slice _ _ _, .int .i64 _, .int .i64 _]) rfl rfl rfl .here (cs' := [.slice _ _ _, .int .i64 _, .int .i64 _]) rfl rfl ?_
         intro w864 hS865
         refine wl_h hS865.toHeld (r_assign (v := .slice _ _ _) rfl) <| wl_h hS865.toHeld (r_assign (v := .int .i64 _) rfl) <| wl_nil <| c_seq <| c_region <| wl_h hS865.toHeld (r_move (v := .int .i64 _) rfl) ?_
         refine wl_h hS865.toHeld (r_neq (a := _) (b := _) rfl rfl) <| wl_nil <| c_cond (c := _) rfl (fun h866 => ?_) (fun h866 => ?_)
         ·replace hM := bif_t h866 hM
          refine c_seq <| c_region <| wl_h hS865.toHeld (r_assign (v := .bool _) rfl) <| wl_nil <| c_ret <| q_retb ?_
          refine q_retl <| q_retb <| ret_tmp (t := 4) rfl (v := .bool _) rfl ?_
          obtain rfl := some_eq hM
          have hS867 := hS865.weaken (.cons _ (.cons _ (.cons _ (.cons _ (.cons _ (.cons _ (.cons _ (.cons _ (.cons _ (.cons _ (.cons _ (.cons _ (.cons _ (.cons _ (.cons _ (.refl _))))))))))))))))
          exact ⟨rfl, (St.back hS867 le47)⟩
         ·replace hM := bif_f h866 hM
          refine c_skip <| c_nil <| q_norm <| c_region ?_
          obtain ⟨hc868, hM⟩ := chk_ok hM
          refine wl_h hS865.toHeld (r_add (a := _) (b := _) rfl rfl (ok_lo hc868) (ok_hi hc868)) <| wl_h hS865.toHeld (r_move (v := .int .i64 _) rfl) <| wl_nil <| c_nil <| q_loop ?_
          have hS869 := hS865.weaken (.cons _ (.cons _ (.cons_cons _ (.cons _ (.cons _ (.cons _ (.cons _ (.cons _ (.cons_cons _ (.cons _ (.cons _ (.cons _ (.cons _ (.cons_cons _ (.cons_cons _ (.refl _))))))))))))))))
          have hS870 := hS869.front (.there .here)
          have hS871 := hS870.front (.there (.there (.there .here)))
          have hS872 := hS871.front (.there (.there (.there .here)))
          exact ⟨k_0, Nat.lt_succ_self _, x453 + 1, hM, hS872, rfl, rfl, rfl, rfl⟩
 ·replace hM := bif_f h462 hM
  refine c_exit <| q_loopx <| q_hit <| c_seq <| c_region ?_
  obtain ⟨r873, hq874, hM⟩ := bnd_ok hM
  refine wl_call ent11 (vals := []) rfl (cg11 hS457 hq874) ?_
  rintro _ w876 ⟨rfl, hS877⟩
  refine wl_h hS877.toHeld (r_assign (v := .bool _) rfl) <| wl_nil <| c_ret <| ret_tmp (t := 4) rfl (v := .bool _) rfl ?_
  obtain rfl := some_eq hM
  have hS878 := hS877.weaken (.cons _ (.cons _ (.cons _ (.cons _ (.refl _)))))
  exact ⟨rfl, (St.back hS878 le47)⟩

end Go.Proofs.Ytdhhimfcjoclfaa
