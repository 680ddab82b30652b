import Derived.Test.YtdhhimfcjoclfaaVA0
set_option linter.unusedVariables false
set_option linter.unusedSimpArgs false
set_option maxRecDepth 100000
namespace Go.Proofs.Ytdhhimfcjoclfaa
open Go Go.K Go.V Go.Proofs
attribute [local irreducible] Calls
theorem cg23 {m : Mem} {L : List Atom} {w : World} {cs1 : List Value} {f3 : Fleet} {a13 : Option Addr} {n14 c15 : Nat} {stops17 : List Int} {leave18 : Int} (hS : St w m L) (hx2 : RFleet m cs1 f3) (hr16 : RSl 1 RInt m a13 n14 c15 stops17) {fuel : Nat} {r : Tour × (List Int) × Bool} (hM : mg23 fuel f3 stops17 leave18 = some r) : Calls P0 23 [.agg cs1.toArray, .slice a13 n14 c15, .int .i64 leave18].toArray w (Ret fun v w' => ∃ (a0 : Option Addr) (n0 : Nat) (c0 : Nat) (cs0 : List Value) (a1 : Option Addr) (n1 : Nat) (c1 : Nat) (cs1 : List Value), v = .tuple #[.agg #[.slice a0 n0 c0, .int .i64 r.1.leave, .int .i64 r.1.fin], .slice a1 n1 c1, .bool r.2.2] ∧ n0 = r.1.stops.length ∧ RCs 1 RInt m cs0 r.1.stops ∧ n1 = r.2.1.length ∧ RCs 1 RInt m cs1 r.2.1 ∧ St w' m (.row (.slice a0 n0 c0) 3 1 cs0 :: .row (.slice a1 n1 c1) 3 1 cs1 :: L)) := by
 rw [mg23] at hM
 have hk12 := hx2
 obtain ⟨a4, n5, c6, a8, n9, c10, rfl, hr7, hr11⟩ := hx2
 obtain rfl := hr7.1
 obtain rfl := hr11.1
 obtain rfl := hr16.1
 refine enter Try.func23 rfl Try.ntmps23 (Nat.le_of_ble_eq_true rfl) ?_
 refine c_seq <| c_region <| wl_box hS (v := .agg #[.slice _ _ _, .slice _ _ _, .int .i64 _, .int .i64 _, .int .i64 _]) rfl (cs := [.slice _ _ _, .slice _ _ _, .int .i64 _, .int .i64 _, .int .i64 _]) rfl ?_
 intro b19 w20 hS21
 refine wl_alloc ty42 rfl hS21 ?_
 intro b22 w23 hS24
 refine wl_h hS24.toHeld (r_assign (v := .slice _ _ _) rfl) <| wl_h hS24.toHeld (r_assign (v := .bool _) rfl) <| wl_nil <| c_seq <| c_region <| wl_h hS24.toHeld (r_move (v := .slice _ _ _) rfl) ?_
 obtain ⟨r25, hq26, hM⟩ := bnd_ok hM
 refine wl_call ent20 (vals := [.slice _ _ _]) rfl (cg20 hS24 hr16 hq26) ?_
 rintro _ w34 ⟨a28, n29, c30, cs31, rfl, rfl, hrc32, hS35⟩
 refine wl_h hS35.toHeld (r_move (v := .int .i64 _) rfl) <| wl_h hS35.toHeld (r_build ty42 st42 (ps := [(0, [.slice _ _ _]), (1, [.int .i64 _])]) rfl rfl (cs := [.slice _ _ _, .int .i64 _, .int .i64 _]) rfl) <| wl_alloc ty42 rfl hS35 ?_
 intro b36 w37 hS38
 refine wl_store_box ty42 hS38 rfl (v := .agg #[.slice _ _ _, .int .i64 _, .int .i64 _]) rfl (vs := [.slice _ _ _, .int .i64 _, .int .i64 _]) rfl rfl rfl .here (cs' := [.slice _ _ _, .int .i64 _, .int .i64 _]) rfl rfl ?_
 intro w39 hS40
 refine wl_nil <| c_seq <| c_region <| wl_h hS40.toHeld (r_assign (v := .slice _ _ _) rfl) <| wl_nil <| c_seq <| c_region <| wl_h hS40.toHeld (r_move (v := .int .i64 _) rfl) ?_
 refine wl_h hS40.toHeld (r_assign (v := .int .i64 _) rfl) <| wl_h hS40.toHeld (r_assign (v := .int .i64 _) rfl) <| wl_nil <| c_seq <| c_seq <| c_region <| wl_h hS40.toHeld (r_move (v := .slice _ _ _) rfl) ?_
 refine wl_h hS40.toHeld (r_len Try.underlying35 (a := _) (n := _) (c := _) rfl) <| wl_h hS40.toHeld (r_move (v := .int .i64 _) rfl) <| wl_nil <| c_block ?_
 have hS304 := hS40.nilRow 3 1
 have hrc305 : RCs 1 RInt m [] ([] : List Int) := RCs.nil
 refine c_loop (fun k f w => ∃ (from306 : Int) (at307 : Int) (x308 : Int) (l309 : List Int) (a310 : Option Addr) (n311 : Nat) (c312 : Nat) (cs313 : List Value), mg23_l0 fuel f3 stops17 leave18 r25 k from306 at307 x308 l309 = some r ∧ n311 = l309.length ∧ RCs 1 RInt m cs313 l309 ∧ St w m (.row (.slice a310 n311 c312) 3 1 cs313 :: .box b36 42 [.slice a28 r25.length c30, .int .i64 leave18, .int .i64 0] :: .row (.slice a28 r25.length c30) 3 1 cs31 :: .box b22 42 [.slice none 0 0, .int .i64 0, .int .i64 0] :: .box b19 26 [.slice a4 f3.stops.length c6, .slice a8 f3.minutes.length c10, .int .i64 f3.cap, .int .i64 f3.start, .int .i64 f3.back] :: L) ∧ f 3 = .pointer (some ⟨b19, 0, none⟩) ∧ f 6 = .pointer (some ⟨b22, 0, none⟩) ∧ f 9 = .pointer (some ⟨b36, 0, none⟩) ∧ f 10 = .slice a310 n311 c312 ∧ f 11 = .int .i64 from306 ∧ f 12 = .int .i64 at307 ∧ f 23 = .slice a13 stops17.length c15 ∧ f 24 = .int .i64 ((stops17.length : Nat) : Int) ∧ f 25 = .int .i64 x308) fuel ⟨0, leave18, 0, ([] : List Int), none, 0, 0, [], hM, row_n (hS304.toHeld.own .here) hrc305 (by decide), hrc305, hS304, rfl, rfl, rfl, rfl, rfl, rfl, rfl, rfl, rfl⟩ ?_
 rintro k_0 f316 w317 ⟨from306, at307, x308, l309, a310, n311, c312, cs313, hM, hn314, hrc315, hS319, e320, e321, e322, e323, e324, e325, e326, e327, e328⟩
 subst hn314
 refine c_know (t := 3) e320 <| c_know (t := 6) e321 <| c_know (t := 9) e322 <| c_know (t := 10) e323 <| c_know (t := 11) e324 ?_
 refine c_know (t := 12) e325 <| c_know (t := 23) e326 <| c_know (t := 24) e327 <| c_know (t := 25) e328 ?_
 clear e320 e321 e322 e323 e324 e325 e326 e327 e328
 rcases k_0 with _ | k_0
 · exact none_ne hM
 rw [mg23_l0] at hM
 refine c_seq <| c_region <| wl_h hS319.toHeld (r_lss (a := _) (b := _) rfl rfl) <| wl_nil <| c_seq <| c_cond (c := _) rfl (fun h329 => ?_) (fun h329 => ?_)
 ·replace hM := bif_t h329 hM
  refine c_skip <| c_seq <| c_block <| c_seq <| c_region ?_
  obtain ⟨x330, hx331, h332, h333, hM⟩ := getK_ok hM
  obtain ⟨b334, o335, rfl⟩ := RSl.elem_a hr16 hx331
  obtain ⟨cs336, hI337, hR338⟩ := RSl.elem_at hr16 hx331
  obtain rfl := hR338
  refine wl_h hS319.toHeld (r_indexAddr Try.underlying35 ty3 (b := _) (o := _) (n := _) (c := _) (i := x308) rfl rfl h332 (RSl.lt hr16 h333)) <| wl_h hS319.toHeld (r_imm ty3 (k := 0) hI337 rfl rfl rfl (v := .int .i64 _) rfl) <| wl_h hS319.toHeld (r_assign (v := .int .i64 _) rfl) <| wl_nil <| c_seq <| c_region <| wl_h hS319.toHeld (r_box ty26 (k := 0) (.there (.there (.there (.there .here)))) rfl rfl rfl (v := .agg #[.slice _ _ _, .slice _ _ _, .int .i64 _, .int .i64 _, .int .i64 _]) rfl) ?_
  refine wl_h hS319.toHeld (r_move (v := .int .i64 _) rfl) <| wl_h hS319.toHeld (r_move (v := .int .i64 _) rfl) <| wl_h hS319.toHeld (r_move (v := .int .i64 _) rfl) ?_
  obtain ⟨r339, hq340, hM⟩ := bnd_ok hM
  refine wl_call ent51 (vals := [.agg #[.slice _ _ _, .slice _ _ _, .int .i64 _, .int .i64 _, .int .i64 _], .int .i64 _, .int .i64 _, .int .i64 _]) rfl (cg51 hS319 hk12 hq340) ?_
  rintro _ w342 ⟨rfl, hS343⟩
  refine wl_h hS343.toHeld (r_move (v := .tuple #[.int .i64 _, .int .i64 _, .bool _]) rfl) <| wl_h hS343.toHeld (r_extract (vs := [.int .i64 _, .int .i64 _, .bool _]) rfl (v := .int .i64 _) rfl) <| wl_h hS343.toHeld (r_extract (vs := [.int .i64 _, .int .i64 _, .bool _]) rfl (v := .int .i64 _) rfl) <| wl_h hS343.toHeld (r_extract (vs := [.int .i64 _, .int .i64 _, .bool _]) rfl (v := .bool _) rfl) <| wl_h hS343.toHeld (r_assign (v := .int .i64 _) rfl) ?_
  refine wl_h hS343.toHeld (r_assign (v := .int .i64 _) rfl) <| wl_h hS343.toHeld (r_assign (v := .bool _) rfl) <| wl_nil <| c_seq <| c_seq <| c_region <| wl_h hS343.toHeld (r_move (v := .bool _) rfl) ?_
  refine wl_h hS343.toHeld (r_not (b := _) rfl) <| wl_nil <| c_cond (c := _) rfl (fun h344 => ?_) (fun h344 => ?_)
  ·replace hM := bif_t h344 hM
   refine c_seq <| c_region <| wl_h hS343.toHeld (r_build ty42 st42 (ps := []) rfl rfl (cs := [.slice _ _ _, .int .i64 _, .int .i64 _]) rfl) <| wl_store_box ty42 hS343 rfl (v := .agg #[.slice _ _ _, .int .i64 _, .int .i64 _]) rfl (vs := [.slice _ _ _, .int .i64 _, .int .i64 _]) rfl rfl rfl (.there (.there (.there .here))) (cs' := [.slice _ _ _, .int .i64 _, .int .i64 _]) rfl rfl ?_
   intro w345 hS346
   refine wl_h hS346.toHeld (r_assign (v := .slice _ _ _) rfl) <| wl_h hS346.toHeld (r_assign (v := .bool _) rfl) <| wl_nil <| c_ret <| q_retb ?_
   refine q_retl <| q_retb <| ret_many rfl (.cell (v := .agg #[.slice _ _ _, .int .i64 _, .int .i64 _]) rfl (ty42.run_loadVar (cs := [.slice _ _ _, .int .i64 _, .int .i64 _]) (box_at (hS346.toHeld.own (.there (.there (.there .here))))) rfl) (.tmp (v := .slice _ _ _) rfl (.tmp (v := .bool _) rfl .nil))) ?_
   have hS347 := hS346.nilRow 3 1
   have hrc349 : RCs 1 RInt m [] ([] : List Int) := RCs.nil
   have hS350 := hS347.nilRow 3 1
   have hrc352 : RCs 1 RInt m [] ([] : List Int) := RCs.nil
   obtain rfl := some_eq hM
   have hS353 := hS350.weaken (.cons_cons _ (.cons_cons _ (.cons _ (.cons _ (.cons _ (.cons _ (.cons _ (.refl _))))))))
   have hS354 := hS353.front (.there .here)
   exact ⟨none, 0, 0, [], none, 0, 0, [], rfl, row_n (hS354.toHeld.own .here) hrc349 (by decide), hrc349, row_n (hS354.toHeld.own (.there .here)) hrc352 (by decide), hrc352, hS354⟩
  ·replace hM := bif_f h344 hM
   refine c_skip <| c_seq <| c_region <| wl_h hS343.toHeld (r_move (v := .slice _ _ _) rfl) <| wl_h hS343.toHeld (r_move (v := .int .i64 _) rfl) ?_
   refine wl_buildSlice Try.underlying35 ty3 rfl (by decide) (by decide) hS343 (ps := [(0, [.int .i64 _])]) rfl rfl (cs := [.int .i64 _]) rfl rfl (by decide) ?_
   intro b356 w357 hS358
   have hrc359 : RCs 1 RInt m [.int .i64 r339.1] ([r339.1] : List Int) := (RCs.cons (d := [.int .i64 r339.1]) rfl rfl RCs.nil)
   obtain ⟨hc360, hM⟩ := chk_ok hM
   refine wl_append_src Try.underlying35 ty3 rfl (by decide) hS358 (a := _) (nn := _) (c := _) rfl (a2 := _) (k2 := _) (c2 := _) rfl (.there .here) (row_src (hS358.toHeld.own .here) (RCs.allOne RInt.one (by decide) hrc359)) (lim_b hc360 rfl) (lim_a hc360) ?_
   intro a361 c362 w363 hS364
   have hrc366 := RCs.append hrc315 hrc359
   generalize cs313 ++ [.int .i64 r339.1] = cs367 at hS364 hrc366
   have hS368 := hS364.weaken (.cons_cons _ (.cons _ (.cons_cons _ (.cons_cons _ (.cons_cons _ (.cons_cons _ (.refl _)))))))
   refine wl_h hS368.toHeld (r_assign (v := .slice _ _ _) rfl) <| wl_nil <| c_region <| wl_h hS368.toHeld (r_move (v := .int .i64 _) rfl) ?_
   obtain ⟨hc369, hM⟩ := chk_ok hM
   refine wl_h hS368.toHeld (r_add (a := _) (b := _) rfl rfl (ok_lo hc369) (ok_hi hc369)) <| wl_h hS368.toHeld (r_move (v := .int .i64 _) rfl) <| wl_h hS368.toHeld (r_assign (v := .int .i64 _) rfl) <| wl_h hS368.toHeld (r_assign (v := .int .i64 _) rfl) <| wl_nil <| c_nil <| q_norm <| c_region ?_
   obtain ⟨hc370, hM⟩ := chk_ok hM
   refine wl_h hS368.toHeld (r_add (a := _) (b := _) rfl rfl (ok_lo hc370) (ok_hi hc370)) <| wl_h hS368.toHeld (r_move (v := .int .i64 _) rfl) <| wl_nil <| c_nil <| q_loop ?_
   exact ⟨k_0, Nat.lt_succ_self _, x330 + 1, r339.2.1, x308 + 1, (l309 ++ [r339.1]), a361, (l309.length + 1), c362, cs367, hM, row_n (hS368.toHeld.own .here) hrc366 (by decide), hrc366, hS368, rfl, rfl, rfl, rfl, rfl, rfl, rfl, rfl, rfl⟩
 ·replace hM := bif_f h329 hM
  refine c_exit <| q_loopx <| q_hit <| c_seq <| c_region <| wl_h hS319.toHeld (r_move (v := .int .i64 _) rfl) ?_
  refine wl_h hS319.toHeld (r_fieldAddr fld26_1 (b := _) (o := _) rfl) <| wl_h hS319.toHeld (r_box ty24 (k := 1) (.there (.there (.there (.there .here)))) rfl rfl rfl (v := .slice _ _ _) rfl) <| wl_h hS319.toHeld (r_move (v := .int .i64 _) rfl) ?_
  obtain ⟨x371, hx372, h373, h374, hM⟩ := getK_ok hM
  obtain ⟨b375, o376, rfl⟩ := RSl.elem_a hr11 hx372
  obtain ⟨cs377, hI378, hR379⟩ := RSl.elem_at hr11 hx372
  obtain ⟨a380, n381, c382, rfl, hr383⟩ := hR379
  obtain rfl := hr383.1
  refine wl_h hS319.toHeld (r_indexAddr Try.underlying24 ty35 (b := _) (o := _) (n := _) (c := _) (i := from306) rfl rfl h373 (RSl.lt hr11 h374)) <| wl_h hS319.toHeld (r_imm ty35 (k := 0) hI378 rfl rfl rfl (v := .slice _ _ _) rfl) ?_
  obtain ⟨x384, hx385, h386, h387, hM⟩ := getK_ok hM
  obtain ⟨b388, o389, rfl⟩ := RSl.elem_a hr383 hx385
  obtain ⟨cs390, hI391, hR392⟩ := RSl.elem_at hr383 hx385
  obtain rfl := hR392
  refine wl_h hS319.toHeld (r_indexAddr Try.underlying35 ty3 (b := _) (o := _) (n := _) (c := _) (i := 0) rfl rfl h386 (RSl.lt hr383 h387)) <| wl_h hS319.toHeld (r_imm ty3 (k := 0) hI391 rfl rfl rfl (v := .int .i64 _) rfl) ?_
  obtain ⟨hc393, hM⟩ := chk_ok hM
  refine wl_h hS319.toHeld (r_add (a := _) (b := _) rfl rfl (ok_lo hc393) (ok_hi hc393)) <| wl_h hS319.toHeld (r_fieldAddr fld42_2 (b := _) (o := _) rfl) <| wl_store_box ty3 hS319 rfl (v := .int .i64 _) rfl (vs := [.int .i64 _]) rfl rfl rfl (.there .here) (cs' := [.slice _ _ _, .int .i64 _, .int .i64 _]) rfl rfl ?_
  intro w394 hS395
  refine wl_nil <| c_seq ?_
  have hH401 := (hS395.weaken (.cons_cons _ (.cons_cons _ (.cons_cons _ (.cons _ (.cons_cons _ (.refl _))))))).toHeld
  refine c_draw (k := 10) (fun w => Held w m (.row (.slice a310 l309.length c312) 3 1 cs313 :: .box b36 42 [.slice a28 r25.length c30, .int .i64 leave18, .int .i64 (at307 + x384)] :: .row (.slice a28 r25.length c30) 3 1 cs31 :: .box b19 26 [.slice a4 f3.stops.length c6, .slice (some ⟨b375, o376, none⟩) f3.minutes.length c10, .int .i64 f3.cap, .int .i64 f3.start, .int .i64 f3.back] :: L)) mixed rfl ?_
  replace hH401 := hH401.drew1
  have hS402 := hS395.drew1
  refine d_v (i := 0) rfl (by kernel_rfl) rfl (r_box ty42 (k := 0) (.there .here) rfl rfl rfl (v := .agg #[.slice _ _ _, .int .i64 _, .int .i64 _]) rfl) hH401 ?_
  refine d_v (i := 1) rfl (by kernel_rfl) rfl (r_move (v := .slice _ _ _) rfl) hH401 ?_
  refine d_v (i := 2) rfl (by kernel_rfl) rfl (r_fieldAddr fld42_2 (b := _) (o := _) rfl) hH401 ?_
  refine d_v (i := 3) rfl (by kernel_rfl) rfl (r_box ty3 (k := 2) (.there .here) rfl rfl rfl (v := .int .i64 _) rfl) hH401 ?_
  refine d_v (i := 4) rfl (by kernel_rfl) rfl (r_fieldAddr fld26_4 (b := _) (o := _) rfl) hH401 ?_
  refine d_v (i := 5) rfl (by kernel_rfl) rfl (r_box ty3 (k := 4) (.there (.there (.there .here))) rfl rfl rfl (v := .int .i64 _) rfl) hH401 ?_
  refine d_v (i := 6) rfl (by kernel_rfl) rfl (r_leq (a := _) (b := _) rfl rfl) hH401 ?_
  refine d_all (rs := [7]) (by kernel_rfl) (by simp) (fun j hj o ho => ?_)
  obtain rfl : j = 7 := by simpa using hj
  cases ho
  refine wl_store_box ty42 hS402 rfl (v := .agg #[.slice _ _ _, .int .i64 _, .int .i64 _]) rfl (vs := [.slice _ _ _, .int .i64 _, .int .i64 _]) rfl rfl rfl (.there (.there (.there .here))) (cs' := [.slice _ _ _, .int .i64 _, .int .i64 _]) rfl rfl ?_
  intro w403 hS404
  refine wl_nil ?_
  have hH405 := hS404.toHeld.mono (Mem.le_refl _) (List.Sublist.subset (.cons_cons _ (.cons_cons _ (.cons_cons _ (.cons _ (.cons_cons _ (.refl _)))))))
  refine ⟨hH405, ?_⟩
  refine d_v (i := 8) rfl (by kernel_rfl) rfl (r_assign (v := .slice _ _ _) rfl) hH405 ?_
  refine d_v (i := 9) rfl (by kernel_rfl) rfl (r_assign (v := .bool _) rfl) hH405 ?_
  refine d_end (by kernel_rfl) ?_
  refine c_ret <| ret_many rfl (.cell (v := .agg #[.slice _ _ _, .int .i64 _, .int .i64 _]) rfl (ty42.run_loadVar (cs := [.slice _ _ _, .int .i64 _, .int .i64 _]) (box_at (hS404.toHeld.own (.there (.there (.there .here))))) rfl) (.tmp (v := .slice _ _ _) rfl (.tmp (v := .bool _) rfl .nil))) ?_
  obtain rfl := some_eq hM
  have hS406 := hS404.weaken (.cons_cons _ (.cons _ (.cons_cons _ (.cons _ (.cons _ (.refl _))))))
  have hS407 := hS406.front (.there .here)
  exact ⟨a28, r25.length, c30, cs31, a310, l309.length, c312, cs313, rfl, row_n (hS407.toHeld.own .here) hrc32 (by decide), hrc32, row_n (hS407.toHeld.own (.there .here)) hrc315 (by decide), hrc315, hS407⟩

theorem cg24 {m : Mem} {L : List Atom} {w : World} {cs1 : List Value} {f3 : Fleet} {a13 : Option Addr} {n14 c15 : Nat} {stops17 : List Int} (hS : St w m L) (hx2 : RFleet m cs1 f3) (hr16 : RSl 1 RInt m a13 n14 c15 stops17) {fuel : Nat} {r : Int} (hM : mg24 fuel f3 stops17 = some r) : Calls P0 24 [.agg cs1.toArray, .slice a13 n14 c15].toArray w (Ret fun v w' => v = .int .i64 r ∧ St w' m (L)) := by
 rw [mg24] at hM
 have hk12 := hx2
 obtain ⟨a4, n5, c6, a8, n9, c10, rfl, hr7, hr11⟩ := hx2
 obtain rfl := hr7.1
 obtain rfl := hr11.1
 obtain rfl := hr16.1
 refine enter Try.func24 rfl Try.ntmps24 (Nat.le_of_ble_eq_true rfl) ?_
 refine c_seq <| c_region <| wl_box hS (v := .agg #[.slice _ _ _, .slice _ _ _, .int .i64 _, .int .i64 _, .int .i64 _]) rfl (cs := [.slice _ _ _, .slice _ _ _, .int .i64 _, .int .i64 _, .int .i64 _]) rfl ?_
 intro b18 w19 hS20
 refine wl_h hS20.toHeld (r_assign (v := .int .i64 _) rfl) <| wl_nil <| c_seq <| c_region <| wl_h hS20.toHeld (r_fieldAddr fld26_3 (b := _) (o := _) rfl) ?_
 refine wl_h hS20.toHeld (r_box ty3 (k := 3) .here rfl rfl rfl (v := .int .i64 _) rfl) <| wl_h hS20.toHeld (r_assign (v := .int .i64 _) rfl) <| wl_nil <| c_seq <| c_seq <| c_region <| wl_h hS20.toHeld (r_move (v := .slice _ _ _) rfl) ?_
 refine wl_h hS20.toHeld (r_len Try.underlying35 (a := _) (n := _) (c := _) rfl) <| wl_h hS20.toHeld (r_move (v := .int .i64 _) rfl) <| wl_nil <| c_block <| c_loop (fun k f w => ∃ (at44 : Int) (x45 : Int), mg24_l0 fuel f3 stops17 k at44 x45 = some r ∧ St w m (.box b18 26 [.slice a4 f3.stops.length c6, .slice a8 f3.minutes.length c10, .int .i64 f3.cap, .int .i64 f3.start, .int .i64 f3.back] :: L) ∧ f 2 = .pointer (some ⟨b18, 0, none⟩) ∧ f 5 = .int .i64 at44 ∧ f 10 = .slice a13 stops17.length c15 ∧ f 11 = .int .i64 ((stops17.length : Nat) : Int) ∧ f 12 = .int .i64 x45) fuel ⟨f3.start, 0, hM, hS20, rfl, rfl, rfl, rfl, rfl⟩ ?_
 rintro k_0 f46 w47 ⟨at44, x45, hM, hS49, e50, e51, e52, e53, e54⟩
 refine c_know (t := 2) e50 <| c_know (t := 5) e51 <| c_know (t := 10) e52 <| c_know (t := 11) e53 <| c_know (t := 12) e54 ?_
 clear e50 e51 e52 e53 e54
 rcases k_0 with _ | k_0
 · exact none_ne hM
 rw [mg24_l0] at hM
 refine c_seq <| c_region <| wl_h hS49.toHeld (r_lss (a := _) (b := _) rfl rfl) <| wl_nil <| c_seq <| c_cond (c := _) rfl (fun h55 => ?_) (fun h55 => ?_)
 ·replace hM := bif_t h55 hM
  refine c_skip <| c_seq <| c_block <| c_seq <| c_region ?_
  obtain ⟨x56, hx57, h58, h59, hM⟩ := getK_ok hM
  obtain ⟨b60, o61, rfl⟩ := RSl.elem_a hr16 hx57
  obtain ⟨cs62, hI63, hR64⟩ := RSl.elem_at hr16 hx57
  obtain rfl := hR64
  refine wl_h hS49.toHeld (r_indexAddr Try.underlying35 ty3 (b := _) (o := _) (n := _) (c := _) (i := x45) rfl rfl h58 (RSl.lt hr16 h59)) <| wl_h hS49.toHeld (r_imm ty3 (k := 0) hI63 rfl rfl rfl (v := .int .i64 _) rfl) <| wl_h hS49.toHeld (r_assign (v := .int .i64 _) rfl) <| wl_nil <| c_region <| wl_h hS49.toHeld (r_move (v := .int .i64 _) rfl) ?_
  refine wl_h hS49.toHeld (r_fieldAddr fld26_0 (b := _) (o := _) rfl) <| wl_h hS49.toHeld (r_box ty23 (k := 0) .here rfl rfl rfl (v := .slice _ _ _) rfl) <| wl_h hS49.toHeld (r_move (v := .int .i64 _) rfl) ?_
  obtain ⟨x65, hx66, h67, h68, hM⟩ := getK_ok hM
  obtain ⟨b69, o70, rfl⟩ := RSl.elem_a hr7 hx66
  obtain ⟨cs71, hI72, hR73⟩ := RSl.elem_at hr7 hx66
  obtain rfl := hR73
  refine wl_h hS49.toHeld (r_indexAddr Try.underlying23 ty34 (b := _) (o := _) (n := _) (c := _) (i := x56) rfl rfl h67 (RSl.lt hr7 h68)) <| wl_h hS49.toHeld (r_fieldAddr fld34_1 (b := _) (o := _) rfl) <| wl_h hS49.toHeld (r_imm ty3 (k := 1) hI72 rfl rfl rfl (v := .int .i64 _) rfl) <| wl_h hS49.toHeld (r_max (a := _) (b := _) rfl rfl) <| wl_h hS49.toHeld (r_assign (v := .int .i64 _) rfl) ?_
  refine wl_nil <| c_nil <| q_norm <| c_region ?_
  obtain ⟨hc74, hM⟩ := chk_ok hM
  refine wl_h hS49.toHeld (r_add (a := _) (b := _) rfl rfl (ok_lo hc74) (ok_hi hc74)) <| wl_h hS49.toHeld (r_move (v := .int .i64 _) rfl) <| wl_nil <| c_nil <| q_loop ?_
  exact ⟨k_0, Nat.lt_succ_self _, max at44 x65.ready, x45 + 1, hM, hS49, rfl, rfl, rfl, rfl, rfl⟩
 ·replace hM := bif_f h55 hM
  refine c_exit <| q_loopx <| q_hit <| c_seq <| c_region <| wl_h hS49.toHeld (r_move (v := .int .i64 _) rfl) ?_
  refine wl_h hS49.toHeld (r_assign (v := .int .i64 _) rfl) <| wl_nil <| c_ret <| ret_tmp (t := 4) rfl (v := .int .i64 _) rfl ?_
  obtain rfl := some_eq hM
  have hS75 := hS49.weaken (.cons _ (.refl _))
  exact ⟨rfl, hS75⟩

theorem cg10 {m : Mem} {L : List Atom} {w : World} {cs1 : List Value} {f3 : Fleet} {a13 : Option Addr} {n14 c15 : Nat} {stops17 : List Int} (hS : St w m L) (hx2 : RFleet m cs1 f3) (hr16 : RSl 1 RInt m a13 n14 c15 stops17) {fuel : Nat} {r : Tour × (List Int) × Int} (hM : mg10 fuel f3 stops17 = some r) : Calls P0 10 [.agg cs1.toArray, .slice a13 n14 c15].toArray w (Ret fun v w' => ∃ (a0 : Option Addr) (n0 : Nat) (c0 : Nat) (cs0 : List Value) (a1 : Option Addr) (n1 : Nat) (c1 : Nat) (cs1 : List Value), v = .tuple #[.agg #[.slice a0 n0 c0, .int .i64 r.1.leave, .int .i64 r.1.fin], .slice a1 n1 c1, .int .i64 r.2.2] ∧ n0 = r.1.stops.length ∧ RCs 1 RInt m cs0 r.1.stops ∧ n1 = r.2.1.length ∧ RCs 1 RInt m cs1 r.2.1 ∧ St w' m (.row (.slice a0 n0 c0) 3 1 cs0 :: .row (.slice a1 n1 c1) 3 1 cs1 :: L)) := by
 rw [mg10] at hM
 have hk12 := hx2
 obtain ⟨a4, n5, c6, a8, n9, c10, rfl, hr7, hr11⟩ := hx2
 obtain rfl := hr7.1
 obtain rfl := hr11.1
 obtain rfl := hr16.1
 refine enter Try.func10 rfl Try.ntmps10 (Nat.le_of_ble_eq_true rfl) ?_
 refine c_seq <| c_region <| wl_box hS (v := .agg #[.slice _ _ _, .slice _ _ _, .int .i64 _, .int .i64 _, .int .i64 _]) rfl (cs := [.slice _ _ _, .slice _ _ _, .int .i64 _, .int .i64 _, .int .i64 _]) rfl ?_
 intro b18 w19 hS20
 refine wl_alloc ty42 rfl hS20 ?_
 intro b21 w22 hS23
 refine wl_h hS23.toHeld (r_assign (v := .slice _ _ _) rfl) <| wl_h hS23.toHeld (r_assign (v := .int .i64 _) rfl) <| wl_nil <| c_seq <| c_seq <| c_region <| wl_h hS23.toHeld (r_box ty26 (k := 0) (.there .here) rfl rfl rfl (v := .agg #[.slice _ _ _, .slice _ _ _, .int .i64 _, .int .i64 _, .int .i64 _]) rfl) ?_
 refine wl_h hS23.toHeld (r_move (v := .slice _ _ _) rfl) ?_
 obtain ⟨r24, hq25, hM⟩ := bnd_ok hM
 refine wl_call ent22 (vals := [.agg #[.slice _ _ _, .slice _ _ _, .int .i64 _, .int .i64 _, .int .i64 _], .slice _ _ _]) rfl (cg22 hS23 hk12 hr16 hq25) ?_
 rintro _ w27 ⟨rfl, hS28⟩
 refine wl_h hS28.toHeld (r_assign (v := .int .i64 _) rfl) <| wl_nil <| c_seq <| c_region <| wl_h hS28.toHeld (r_move (v := .int .i64 _) rfl) ?_
 refine wl_h hS28.toHeld (r_neq (a := _) (b := _) rfl rfl) <| wl_nil <| c_cond (c := _) rfl (fun h29 => ?_) (fun h29 => ?_)
 ·replace hM := bif_t h29 hM
  refine c_seq <| c_region <| wl_h hS28.toHeld (r_build ty42 st42 (ps := []) rfl rfl (cs := [.slice _ _ _, .int .i64 _, .int .i64 _]) rfl) <| wl_h hS28.toHeld (r_move (v := .int .i64 _) rfl) <| wl_store_box ty42 hS28 rfl (v := .agg #[.slice _ _ _, .int .i64 _, .int .i64 _]) rfl (vs := [.slice _ _ _, .int .i64 _, .int .i64 _]) rfl rfl rfl .here (cs' := [.slice _ _ _, .int .i64 _, .int .i64 _]) rfl rfl ?_
  intro w30 hS31
  refine wl_h hS31.toHeld (r_assign (v := .slice _ _ _) rfl) <| wl_h hS31.toHeld (r_assign (v := .int .i64 _) rfl) <| wl_nil <| c_ret <| ret_many rfl (.cell (v := .agg #[.slice _ _ _, .int .i64 _, .int .i64 _]) rfl (ty42.run_loadVar (cs := [.slice _ _ _, .int .i64 _, .int .i64 _]) (box_at (hS31.toHeld.own .here)) rfl) (.tmp (v := .slice _ _ _) rfl (.tmp (v := .int .i64 _) rfl .nil))) ?_
  have hS32 := hS31.nilRow 3 1
  have hrc34 : RCs 1 RInt m [] ([] : List Int) := RCs.nil
  have hS35 := hS32.nilRow 3 1
  have hrc37 : RCs 1 RInt m [] ([] : List Int) := RCs.nil
  obtain rfl := some_eq hM
  have hS38 := hS35.weaken (.cons_cons _ (.cons_cons _ (.cons _ (.cons _ (.refl _)))))
  have hS39 := hS38.front (.there .here)
  exact ⟨none, 0, 0, [], none, 0, 0, [], rfl, row_n (hS39.toHeld.own .here) hrc34 (by decide), hrc34, row_n (hS39.toHeld.own (.there .here)) hrc37 (by decide), hrc37, hS39⟩
 ·replace hM := bif_f h29 hM
  refine c_skip <| c_seq ?_
  obtain ⟨r42, hq43, hM⟩ := bnd_ok hM
  obtain ⟨r48, hq49, hM⟩ := bnd_ok hM
  have hH87 := (hS28.weaken (.cons_cons _ (.cons_cons _ (.refl _)))).toHeld
  refine c_drawJ (k := 14) (fun f w => ∃ (b74 : Nat) (a75 : Option Addr) (n76 : Nat) (c77 : Nat) (cs78 : List Value) (a81 : Option Addr) (n82 : Nat) (c83 : Nat) (cs84 : List Value), n76 = (r48.1.stops).length ∧ RCs 1 RInt m cs78 r48.1.stops ∧ n82 = (r48.2.1).length ∧ RCs 1 RInt m cs84 r48.2.1 ∧ St w m (.box b74 42 [.slice a75 n76 c77, .int .i64 r48.1.leave, .int .i64 r48.1.fin] :: .row (.slice a75 n76 c77) 3 1 cs78 :: .row (.slice a81 n82 c83) 3 1 cs84 :: .box b21 42 [.slice none 0 0, .int .i64 0, .int .i64 0] :: L) ∧ f 4 = .pointer (some ⟨b21, 0, none⟩) ∧ f 5 = .slice none 0 0 ∧ f 6 = .int .i64 0 ∧ f 8 = .pointer (some ⟨b74, 0, none⟩) ∧ f 9 = .slice a81 n82 c83 ∧ f 10 = .bool r48.2.2) (fun w => Held w m (.box b21 42 [.slice none 0 0, .int .i64 0, .int .i64 0] :: .box b18 26 [.slice a4 f3.stops.length c6, .slice a8 f3.minutes.length c10, .int .i64 f3.cap, .int .i64 f3.start, .int .i64 f3.back] :: L)) mixed rfl ?_ ?_
  ·replace hH87 := hH87.drew1
   have hS88 := hS28.drew1
   refine d_v (i := 0) rfl (by kernel_rfl) rfl (r_box ty26 (k := 0) (.there .here) rfl rfl rfl (v := .agg #[.slice _ _ _, .slice _ _ _, .int .i64 _, .int .i64 _, .int .i64 _]) rfl) hH87 ?_
   refine d_v (i := 1) rfl (by kernel_rfl) rfl (r_move (v := .slice _ _ _) rfl) hH87 ?_
   refine d_v (i := 2) rfl (by kernel_rfl) rfl (r_box ty26 (k := 0) (.there .here) rfl rfl rfl (v := .agg #[.slice _ _ _, .slice _ _ _, .int .i64 _, .int .i64 _, .int .i64 _]) rfl) hH87 ?_
   refine d_v (i := 3) rfl (by kernel_rfl) rfl (r_move (v := .slice _ _ _) rfl) hH87 ?_
   refine d_all (rs := [4, 10]) (by kernel_rfl) (by simp) (fun j hj o ho => ?_)
   simp only [List.mem_cons, List.not_mem_nil, or_false] at hj
   rcases hj with rfl | rfl
   ·cases ho
    refine wl_call ent24 (vals := [.agg #[.slice _ _ _, .slice _ _ _, .int .i64 _, .int .i64 _, .int .i64 _], .slice _ _ _]) rfl (cg24 hS88 hk12 hr16 hq43) ?_
    rintro _ w90 ⟨rfl, hS91⟩
    refine wl_nil ?_
    have hH92 := hS91.toHeld.mono (Mem.le_refl _) (List.Sublist.subset (.cons_cons _ (.cons_cons _ (.refl _))))
    refine ⟨hH92, ?_⟩
    refine d_all (rs := [5, 10]) (by kernel_rfl) (by simp) (fun j hj o ho => ?_)
    simp only [List.mem_cons, List.not_mem_nil, or_false] at hj
    rcases hj with rfl | rfl
    ·cases ho
     refine wl_call ent23 (vals := [.agg #[.slice _ _ _, .slice _ _ _, .int .i64 _, .int .i64 _, .int .i64 _], .slice _ _ _, .int .i64 _]) rfl (cg23 hS91 hk12 hr16 hq49) ?_
     rintro _ w106 ⟨a94, n95, c96, cs97, a100, n101, c102, cs103, rfl, rfl, hrc98, rfl, hrc104, hS107⟩
     refine wl_nil ?_
     have hH108 := hS107.toHeld.mono (Mem.le_refl _) (List.Sublist.subset (.cons _ (.cons _ (.cons_cons _ (.cons_cons _ (.refl _))))))
     refine ⟨hH108, ?_⟩
     refine d_v (i := 6) rfl (by kernel_rfl) rfl (r_move (v := .tuple #[.agg #[.slice _ _ _, .int .i64 _, .int .i64 _], .slice _ _ _, .bool _]) rfl) hH108 ?_
     refine d_v (i := 7) rfl (by kernel_rfl) rfl (r_extract (vs := [.agg #[.slice _ _ _, .int .i64 _, .int .i64 _], .slice _ _ _, .bool _]) rfl (v := .agg #[.slice _ _ _, .int .i64 _, .int .i64 _]) rfl) hH108 ?_
     refine d_v (i := 8) rfl (by kernel_rfl) rfl (r_extract (vs := [.agg #[.slice _ _ _, .int .i64 _, .int .i64 _], .slice _ _ _, .bool _]) rfl (v := .slice _ _ _) rfl) hH108 ?_
     refine d_v (i := 9) rfl (by kernel_rfl) rfl (r_extract (vs := [.agg #[.slice _ _ _, .int .i64 _, .int .i64 _], .slice _ _ _, .bool _]) rfl (v := .bool _) rfl) hH108 ?_
     refine d_all (rs := [10]) (by kernel_rfl) (by simp) (fun j hj o ho => ?_)
     obtain rfl : j = 10 := by simpa using hj
     cases ho
     refine wl_alloc ty42 rfl hS107 ?_
     intro b109 w110 hS111
     refine wl_nil ?_
     have hH112 := hS111.toHeld.mono (Mem.le_refl _) (List.Sublist.subset (.cons _ (.cons _ (.cons _ (.cons_cons _ (.cons_cons _ (.refl _)))))))
     refine ⟨hH112, ?_⟩
     refine d_all (rs := [11]) (by kernel_rfl) (by simp) (fun j hj o ho => ?_)
     obtain rfl : j = 11 := by simpa using hj
     cases ho
     refine wl_store_box ty42 hS111 rfl (v := .agg #[.slice _ _ _, .int .i64 _, .int .i64 _]) rfl (vs := [.slice _ _ _, .int .i64 _, .int .i64 _]) rfl rfl rfl .here (cs' := [.slice _ _ _, .int .i64 _, .int .i64 _]) rfl rfl ?_
     intro w113 hS114
     refine wl_nil ?_
     have hH115 := hS114.toHeld.mono (Mem.le_refl _) (List.Sublist.subset (.cons _ (.cons _ (.cons _ (.cons_cons _ (.cons_cons _ (.refl _)))))))
     refine ⟨hH115, ?_⟩
     refine d_v (i := 12) rfl (by kernel_rfl) rfl (r_assign (v := .slice _ _ _) rfl) hH115 ?_
     refine d_v (i := 13) rfl (by kernel_rfl) rfl (r_assign (v := .bool _) rfl) hH115 ?_
     refine d_end (by kernel_rfl) ?_
     have hS116 := hS114.weaken (.cons_cons _ (.cons_cons _ (.cons_cons _ (.cons_cons _ (.cons _ (.refl _))))))
     exact ⟨_, _, _, _, _, _, _, _, _, row_n (hS116.toHeld.own (.there .here)) hrc98 (by decide), hrc98, row_n (hS116.toHeld.own (.there (.there .here))) hrc104 (by decide), hrc104, hS116, rfl, rfl, rfl, rfl, rfl, rfl⟩
    ·cases ho
     refine wl_alloc ty42 rfl hS91 ?_
     intro b117 w118 hS119
     refine wl_nil ?_
     have hH120 := hS119.toHeld.mono (Mem.le_refl _) (List.Sublist.subset (.cons _ (.cons_cons _ (.cons_cons _ (.refl _)))))
     refine ⟨hH120, ?_⟩
     refine d_all (rs := [5]) (by kernel_rfl) (by simp) (fun j hj o ho => ?_)
     obtain rfl : j = 5 := by simpa using hj
     cases ho
     refine wl_call ent23 (vals := [.agg #[.slice _ _ _, .slice _ _ _, .int .i64 _, .int .i64 _, .int .i64 _], .slice _ _ _, .int .i64 _]) rfl (cg23 hS119 hk12 hr16 hq49) ?_
     rintro _ w134 ⟨a122, n123, c124, cs125, a128, n129, c130, cs131, rfl, rfl, hrc126, rfl, hrc132, hS135⟩
     refine wl_nil ?_
     have hH136 := hS135.toHeld.mono (Mem.le_refl _) (List.Sublist.subset (.cons _ (.cons _ (.cons _ (.cons_cons _ (.cons_cons _ (.refl _)))))))
     refine ⟨hH136, ?_⟩
     refine d_v (i := 6) rfl (by kernel_rfl) rfl (r_move (v := .tuple #[.agg #[.slice _ _ _, .int .i64 _, .int .i64 _], .slice _ _ _, .bool _]) rfl) hH136 ?_
     refine d_v (i := 7) rfl (by kernel_rfl) rfl (r_extract (vs := [.agg #[.slice _ _ _, .int .i64 _, .int .i64 _], .slice _ _ _, .bool _]) rfl (v := .agg #[.slice _ _ _, .int .i64 _, .int .i64 _]) rfl) hH136 ?_
     refine d_v (i := 8) rfl (by kernel_rfl) rfl (r_extract (vs := [.agg #[.slice _ _ _, .int .i64 _, .int .i64 _], .slice _ _ _, .bool _]) rfl (v := .slice _ _ _) rfl) hH136 ?_
     refine d_v (i := 9) rfl (by kernel_rfl) rfl (r_extract (vs := [.agg #[.slice _ _ _, .int .i64 _, .int .i64 _], .slice _ _ _, .bool _]) rfl (v := .bool _) rfl) hH136 ?_
     refine d_all (rs := [11]) (by kernel_rfl) (by simp) (fun j hj o ho => ?_)
     obtain rfl : j = 11 := by simpa using hj
     cases ho
     refine wl_store_box ty42 hS135 rfl (v := .agg #[.slice _ _ _, .int .i64 _, .int .i64 _]) rfl (vs := [.slice _ _ _, .int .i64 _, .int .i64 _]) rfl rfl rfl (.there (.there .here)) (cs' := [.slice _ _ _, .int .i64 _, .int .i64 _]) rfl rfl ?_
     intro w137 hS138
     refine wl_nil ?_
     have hH139 := hS138.toHeld.mono (Mem.le_refl _) (List.Sublist.subset (.cons _ (.cons _ (.cons _ (.cons_cons _ (.cons_cons _ (.refl _)))))))
     refine ⟨hH139, ?_⟩
     refine d_v (i := 12) rfl (by kernel_rfl) rfl (r_assign (v := .slice _ _ _) rfl) hH139 ?_
     refine d_v (i := 13) rfl (by kernel_rfl) rfl (r_assign (v := .bool _) rfl) hH139 ?_
     refine d_end (by kernel_rfl) ?_
     have hS140 := hS138.weaken (.cons_cons _ (.cons_cons _ (.cons_cons _ (.cons_cons _ (.cons _ (.refl _))))))
     have hS141 := hS140.front (.there (.there (.there .here)))
     have hS142 := hS141.front (.there (.there .here))
     have hS143 := hS142.front (.there (.there .here))
     have hS144 := hS143.front (.there (.there (.there .here)))
     exact ⟨_, _, _, _, _, _, _, _, _, row_n (hS144.toHeld.own (.there .here)) hrc126 (by decide), hrc126, row_n (hS144.toHeld.own (.there (.there .here))) hrc132 (by decide), hrc132, hS144, rfl, rfl, rfl, rfl, rfl, rfl⟩
   ·cases ho
    refine wl_alloc ty42 rfl hS88 ?_
    intro b145 w146 hS147
    refine wl_nil ?_
    have hH148 := hS147.toHeld.mono (Mem.le_refl _) (List.Sublist.subset (.cons _ (.cons_cons _ (.cons_cons _ (.refl _)))))
    refine ⟨hH148, ?_⟩
    refine d_all (rs := [4]) (by kernel_rfl) (by simp) (fun j hj o ho => ?_)
    obtain rfl : j = 4 := by simpa using hj
    cases ho
    refine wl_call ent24 (vals := [.agg #[.slice _ _ _, .slice _ _ _, .int .i64 _, .int .i64 _, .int .i64 _], .slice _ _ _]) rfl (cg24 hS147 hk12 hr16 hq43) ?_
    rintro _ w150 ⟨rfl, hS151⟩
    refine wl_nil ?_
    have hH152 := hS151.toHeld.mono (Mem.le_refl _) (List.Sublist.subset (.cons _ (.cons_cons _ (.cons_cons _ (.refl _)))))
    refine ⟨hH152, ?_⟩
    refine d_all (rs := [5]) (by kernel_rfl) (by simp) (fun j hj o ho => ?_)
    obtain rfl : j = 5 := by simpa using hj
    cases ho
    refine wl_call ent23 (vals := [.agg #[.slice _ _ _, .slice _ _ _, .int .i64 _, .int .i64 _, .int .i64 _], .slice _ _ _, .int .i64 _]) rfl (cg23 hS151 hk12 hr16 hq49) ?_
    rintro _ w166 ⟨a154, n155, c156, cs157, a160, n161, c162, cs163, rfl, rfl, hrc158, rfl, hrc164, hS167⟩
    refine wl_nil ?_
    have hH168 := hS167.toHeld.mono (Mem.le_refl _) (List.Sublist.subset (.cons _ (.cons _ (.cons _ (.cons_cons _ (.cons_cons _ (.refl _)))))))
    refine ⟨hH168, ?_⟩
    refine d_v (i := 6) rfl (by kernel_rfl) rfl (r_move (v := .tuple #[.agg #[.slice _ _ _, .int .i64 _, .int .i64 _], .slice _ _ _, .bool _]) rfl) hH168 ?_
    refine d_v (i := 7) rfl (by kernel_rfl) rfl (r_extract (vs := [.agg #[.slice _ _ _, .int .i64 _, .int .i64 _], .slice _ _ _, .bool _]) rfl (v := .agg #[.slice _ _ _, .int .i64 _, .int .i64 _]) rfl) hH168 ?_
    refine d_v (i := 8) rfl (by kernel_rfl) rfl (r_extract (vs := [.agg #[.slice _ _ _, .int .i64 _, .int .i64 _], .slice _ _ _, .bool _]) rfl (v := .slice _ _ _) rfl) hH168 ?_
    refine d_v (i := 9) rfl (by kernel_rfl) rfl (r_extract (vs := [.agg #[.slice _ _ _, .int .i64 _, .int .i64 _], .slice _ _ _, .bool _]) rfl (v := .bool _) rfl) hH168 ?_
    refine d_all (rs := [11]) (by kernel_rfl) (by simp) (fun j hj o ho => ?_)
    obtain rfl : j = 11 := by simpa using hj
    cases ho
    refine wl_store_box ty42 hS167 rfl (v := .agg #[.slice _ _ _, .int .i64 _, .int .i64 _]) rfl (vs := [.slice _ _ _, .int .i64 _, .int .i64 _]) rfl rfl rfl (.there (.there .here)) (cs' := [.slice _ _ _, .int .i64 _, .int .i64 _]) rfl rfl ?_
    intro w169 hS170
    refine wl_nil ?_
    have hH171 := hS170.toHeld.mono (Mem.le_refl _) (List.Sublist.subset (.cons _ (.cons _ (.cons _ (.cons_cons _ (.cons_cons _ (.refl _)))))))
    refine ⟨hH171, ?_⟩
    refine d_v (i := 12) rfl (by kernel_rfl) rfl (r_assign (v := .slice _ _ _) rfl) hH171 ?_
    refine d_v (i := 13) rfl (by kernel_rfl) rfl (r_assign (v := .bool _) rfl) hH171 ?_
    refine d_end (by kernel_rfl) ?_
    have hS172 := hS170.weaken (.cons_cons _ (.cons_cons _ (.cons_cons _ (.cons_cons _ (.cons _ (.refl _))))))
    have hS173 := hS172.front (.there (.there (.there .here)))
    have hS174 := hS173.front (.there (.there .here))
    have hS175 := hS174.front (.there (.there .here))
    have hS176 := hS175.front (.there (.there (.there .here)))
    exact ⟨_, _, _, _, _, _, _, _, _, row_n (hS176.toHeld.own (.there .here)) hrc158 (by decide), hrc158, row_n (hS176.toHeld.own (.there (.there .here))) hrc164 (by decide), hrc164, hS176, rfl, rfl, rfl, rfl, rfl, rfl⟩
  ·rintro f184 w185 ⟨b74, a75, n76, c77, cs78, a81, n82, c83, cs84, hn79, hrc80, hn85, hrc86, hS177, e178, e179, e180, e181, e182, e183⟩
   subst hn79
   subst hn85
   refine c_know (t := 4) e178 <| c_know (t := 5) e179 <| c_know (t := 6) e180 <| c_know (t := 8) e181 <| c_know (t := 9) e182 ?_
   refine c_know (t := 10) e183 ?_
   clear e178 e179 e180 e181 e182 e183
   refine c_seq <| c_seq <| c_region <| wl_h hS177.toHeld (r_move (v := .bool _) rfl) <| wl_h hS177.toHeld (r_not (b := _) rfl) ?_
   refine wl_nil <| c_cond (c := _) rfl (fun h186 => ?_) (fun h186 => ?_)
   ·replace hM := bif_t h186 hM
    refine c_seq <| c_region <| wl_h hS177.toHeld (r_build ty42 st42 (ps := []) rfl rfl (cs := [.slice _ _ _, .int .i64 _, .int .i64 _]) rfl) <| wl_store_box ty42 hS177 rfl (v := .agg #[.slice _ _ _, .int .i64 _, .int .i64 _]) rfl (vs := [.slice _ _ _, .int .i64 _, .int .i64 _]) rfl rfl rfl (.there (.there (.there .here))) (cs' := [.slice _ _ _, .int .i64 _, .int .i64 _]) rfl rfl ?_
    intro w187 hS188
    refine wl_h hS188.toHeld (r_assign (v := .slice _ _ _) rfl) <| wl_h hS188.toHeld (r_assign (v := .int .i64 _) rfl) <| wl_nil <| c_ret <| ret_many rfl (.cell (v := .agg #[.slice _ _ _, .int .i64 _, .int .i64 _]) rfl (ty42.run_loadVar (cs := [.slice _ _ _, .int .i64 _, .int .i64 _]) (box_at (hS188.toHeld.own (.there (.there (.there .here))))) rfl) (.tmp (v := .slice _ _ _) rfl (.tmp (v := .int .i64 _) rfl .nil))) ?_
    have hS189 := hS188.nilRow 3 1
    have hrc191 : RCs 1 RInt m [] ([] : List Int) := RCs.nil
    have hS192 := hS189.nilRow 3 1
    have hrc194 : RCs 1 RInt m [] ([] : List Int) := RCs.nil
    obtain rfl := some_eq hM
    have hS195 := hS192.weaken (.cons_cons _ (.cons_cons _ (.cons _ (.cons _ (.cons _ (.cons _ (.refl _)))))))
    have hS196 := hS195.front (.there .here)
    exact ⟨none, 0, 0, [], none, 0, 0, [], rfl, row_n (hS196.toHeld.own .here) hrc191 (by decide), hrc191, row_n (hS196.toHeld.own (.there .here)) hrc194 (by decide), hrc194, hS196⟩
   ·replace hM := bif_f h186 hM
    refine c_skip <| c_seq <| c_region <| wl_h hS177.toHeld (r_box ty42 (k := 0) .here rfl rfl rfl (v := .agg #[.slice _ _ _, .int .i64 _, .int .i64 _]) rfl) <| wl_h hS177.toHeld (r_move (v := .slice _ _ _) rfl) ?_
    refine wl_store_box ty42 hS177 rfl (v := .agg #[.slice _ _ _, .int .i64 _, .int .i64 _]) rfl (vs := [.slice _ _ _, .int .i64 _, .int .i64 _]) rfl rfl rfl (.there (.there (.there .here))) (cs' := [.slice _ _ _, .int .i64 _, .int .i64 _]) rfl rfl ?_
    intro w197 hS198
    refine wl_h hS198.toHeld (r_assign (v := .slice _ _ _) rfl) <| wl_h hS198.toHeld (r_assign (v := .int .i64 _) rfl) <| wl_nil <| c_ret <| ret_many rfl (.cell (v := .agg #[.slice _ _ _, .int .i64 _, .int .i64 _]) rfl (ty42.run_loadVar (cs := [.slice _ _ _, .int .i64 _, .int .i64 _]) (box_at (hS198.toHeld.own (.there (.there (.there .here))))) rfl) (.tmp (v := .slice _ _ _) rfl (.tmp (v := .int .i64 _) rfl .nil))) ?_
    obtain rfl := some_eq hM
    have hS199 := hS198.weaken (.cons _ (.cons_cons _ (.cons_cons _ (.cons _ (.refl _)))))
    exact ⟨a75, r48.1.stops.length, c77, cs78, a81, r48.2.1.length, c83, cs84, rfl, row_n (hS199.toHeld.own .here) hrc80 (by decide), hrc80, row_n (hS199.toHeld.own (.there .here)) hrc86 (by decide), hrc86, hS199⟩

theorem cg35 {m : Mem} {L : List Atom} {w : World} (hS : St w m L) {set1 : Int} : Calls P0 35 [.int .i64 set1].toArray w (Ret fun v w' => ∃ b, v = .func (.func 59) #[] #[.pointer (some ⟨b, 0, none⟩)] ∧ St w' m (.box b 3 [.int .i64 set1] :: L)) := by
 refine enter Try.func35 rfl Try.ntmps35 (Nat.le_of_ble_eq_true rfl) ?_
 refine c_seq <| c_region <| wl_box hS (v := .int .i64 _) rfl (cs := [.int .i64 _]) rfl ?_
 intro b2 w3 hS4
 refine wl_h hS4.toHeld (r_assign (v := .nilFunc) rfl) <| wl_nil <| c_seq <| c_region <| wl_h hS4.toHeld (r_makeFunc (vs := [.pointer (some ⟨_, _, none⟩)]) rfl) ?_
 refine wl_h hS4.toHeld (r_assign (v := .func (.func 59) #[] #[.pointer (some ⟨_, _, none⟩)]) rfl) <| wl_nil <| c_ret <| ret_tmp (t := 2) rfl (v := .func (.func 59) #[] #[.pointer (some ⟨_, _, none⟩)]) rfl ?_
 exact ⟨_, rfl, hS4⟩

theorem cg80 {m : Mem} {L : List Atom} {w : World} {x1 : Int} {y2 : Int} (hS : St w m L)  {fuel : Nat} {r : Int} (hM : mg80 fuel x1 y2 = some r) : Calls P0 80 [.int .i64 x1, .int .i64 y2].toArray w (Ret fun v w' => v = .int .i64 r ∧ St w' m (L)) := by
 rw [mg80] at hM
 refine enter Try.func80 rfl Try.ntmps80 (Nat.le_of_ble_eq_true rfl) ?_
 refine c_seq <| c_region <| wl_h hS.toHeld (r_assign (v := .int .i64 _) rfl) <| wl_nil <| c_seq <| c_region <| wl_h hS.toHeld (r_move (v := .int .i64 _) rfl) ?_
 obtain ⟨r3, hq4, hM⟩ := bnd_ok hM
 refine wl_call ent88 (vals := [.int .i64 _]) rfl (cg88 hS hq4) ?_
 rintro _ w6 ⟨rfl, hS7⟩
 refine wl_h hS7.toHeld (r_assign (v := .bool _) rfl) <| wl_nil <| c_seq <| c_region <| wl_h hS7.toHeld (r_move (v := .int .i64 _) rfl) ?_
 obtain ⟨r8, hq9, hM⟩ := bnd_ok hM
 refine wl_call ent88 (vals := [.int .i64 _]) rfl (cg88 hS7 hq9) ?_
 rintro _ w11 ⟨rfl, hS12⟩
 refine wl_h hS12.toHeld (r_assign (v := .bool _) rfl) <| wl_nil <| c_seq <| c_seq <| c_region <| wl_h hS12.toHeld (r_move (v := .bool _) rfl) ?_
 refine wl_nil <| c_cond (c := _) rfl (fun h13 => ?_) (fun h13 => ?_)
 ·replace hM := bif_t h13 hM
  refine c_seq <| c_seq <| c_region <| wl_h hS12.toHeld (r_move (v := .bool _) rfl) <| wl_nil <| c_cond (c := _) rfl (fun h14 => ?_) (fun h14 => ?_)
  ·replace hM := bif_t h14 hM
   refine c_seq <| c_region <| wl_h hS12.toHeld (r_assign (v := .int .i64 _) rfl) <| wl_nil <| c_ret <| ret_tmp (t := 4) rfl (v := .int .i64 _) rfl ?_
   obtain rfl := some_eq hM
   exact ⟨rfl, hS12⟩
  ·replace hM := bif_f h14 hM
   refine c_skip <| c_seq <| c_region <| wl_h hS12.toHeld (r_assign (v := .int .i64 _) rfl) <| wl_nil <| c_ret <| ret_tmp (t := 4) rfl (v := .int .i64 _) rfl ?_
   obtain rfl := some_eq hM
   exact ⟨rfl, hS12⟩
 ·replace hM := bif_f h13 hM
  refine c_skip <| c_seq <| c_seq <| c_region <| wl_h hS12.toHeld (r_move (v := .bool _) rfl) ?_
  refine wl_nil <| c_cond (c := _) rfl (fun h15 => ?_) (fun h15 => ?_)
  ·replace hM := bif_t h15 hM
   refine c_seq <| c_region <| wl_h hS12.toHeld (r_assign (v := .int .i64 _) rfl) <| wl_nil <| c_ret <| ret_tmp (t := 4) rfl (v := .int .i64 _) rfl ?_
   obtain rfl := some_eq hM
   exact ⟨rfl, hS12⟩
  ·replace hM := bif_f h15 hM
   refine c_skip <| c_seq <| c_seq <| c_region <| wl_h hS12.toHeld (r_move (v := .int .i64 _) rfl) ?_
   refine wl_h hS12.toHeld (r_move (v := .int .i64 _) rfl) <| wl_h hS12.toHeld (r_lss (a := _) (b := _) rfl rfl) <| wl_nil <| c_cond (c := _) rfl (fun h16 => ?_) (fun h16 => ?_)
   ·replace hM := bif_t h16 hM
    refine c_seq <| c_region <| wl_h hS12.toHeld (r_assign (v := .int .i64 _) rfl) <| wl_nil <| c_ret <| ret_tmp (t := 4) rfl (v := .int .i64 _) rfl ?_
    obtain rfl := some_eq hM
    exact ⟨rfl, hS12⟩
   ·replace hM := bif_f h16 hM
    refine c_skip <| c_seq <| c_seq <| c_region <| wl_h hS12.toHeld (r_move (v := .int .i64 _) rfl) ?_
    refine wl_h hS12.toHeld (r_move (v := .int .i64 _) rfl) <| wl_h hS12.toHeld (r_gtr (a := _) (b := _) rfl rfl) <| wl_nil <| c_cond (c := _) rfl (fun h17 => ?_) (fun h17 => ?_)
    ·replace hM := bif_t h17 hM
     refine c_seq <| c_region <| wl_h hS12.toHeld (r_assign (v := .int .i64 _) rfl) <| wl_nil <| c_ret <| ret_tmp (t := 4) rfl (v := .int .i64 _) rfl ?_
     obtain rfl := some_eq hM
     exact ⟨rfl, hS12⟩
    ·replace hM := bif_f h17 hM
     refine c_skip <| c_seq <| c_region <| wl_h hS12.toHeld (r_assign (v := .int .i64 _) rfl) <| wl_nil <| c_ret <| ret_tmp (t := 4) rfl (v := .int .i64 _) rfl ?_
     obtain rfl := some_eq hM
     exact ⟨rfl, hS12⟩

theorem cg60 {m : Mem} {L : List Atom} {w : World} {a1 : Option Addr} {n2 c3 : Nat} {s15 : List Int} {a6 : Option Addr} {n7 c8 : Nat} {s210 : List Int} (hS : St w m L) (hr4 : RSl 1 RInt m a1 n2 c3 s15) (hr9 : RSl 1 RInt m a6 n7 c8 s210) {fuel : Nat} {r : Int} (hM : mg60 fuel s15 s210 = some r) : Calls P0 60 [.slice a1 n2 c3, .slice a6 n7 c8].toArray w (Ret fun v w' => v = .int .i64 r ∧ St w' m (L)) := by
 rw [mg60] at hM
 obtain rfl := hr4.1
 obtain rfl := hr9.1
 refine enter Try.func60 rfl Try.ntmps60 (Nat.le_of_ble_eq_true rfl) ?_
 refine c_seq <| c_region <| wl_h hS.toHeld (r_assign (v := .int .i64 _) rfl) <| wl_nil <| c_seq <| c_seq <| c_region <| wl_h hS.toHeld (r_move (v := .slice _ _ _) rfl) ?_
 refine wl_h hS.toHeld (r_len Try.underlying35 (a := _) (n := _) (c := _) rfl) <| wl_h hS.toHeld (r_move (v := .int .i64 _) rfl) <| wl_nil <| c_block <| c_loop (fun k f w => ∃ (x40 : Int), mg60_l0 fuel s15 s210 k x40 = some r ∧ St w m (L) ∧ f 0 = .slice a1 s15.length c3 ∧ f 1 = .slice a6 s210.length c8 ∧ f 9 = .slice a1 s15.length c3 ∧ f 10 = .int .i64 ((s15.length : Nat) : Int) ∧ f 11 = .int .i64 x40) fuel ⟨0, hM, hS, rfl, rfl, rfl, rfl, rfl⟩ ?_
 rintro k_0 f41 w42 ⟨x40, hM, hS44, e45, e46, e47, e48, e49⟩
 refine c_know (t := 0) e45 <| c_know (t := 1) e46 <| c_know (t := 9) e47 <| c_know (t := 10) e48 <| c_know (t := 11) e49 ?_
 clear e45 e46 e47 e48 e49
 rcases k_0 with _ | k_0
 · exact none_ne hM
 rw [mg60_l0] at hM
 refine c_seq <| c_region <| wl_h hS44.toHeld (r_lss (a := _) (b := _) rfl rfl) <| wl_nil <| c_seq <| c_cond (c := _) rfl (fun h50 => ?_) (fun h50 => ?_)
 ·replace hM := bif_t h50 hM
  refine c_skip <| c_seq <| c_block <| c_seq <| c_region <| wl_h hS44.toHeld (r_move (v := .int .i64 _) rfl) ?_
  obtain ⟨x51, hx52, h53, h54, hM⟩ := getK_ok hM
  obtain ⟨b55, o56, rfl⟩ := RSl.elem_a hr4 hx52
  obtain ⟨cs57, hI58, hR59⟩ := RSl.elem_at hr4 hx52
  obtain rfl := hR59
  refine wl_h hS44.toHeld (r_indexAddr Try.underlying35 ty3 (b := _) (o := _) (n := _) (c := _) (i := x40) rfl rfl h53 (RSl.lt hr4 h54)) <| wl_h hS44.toHeld (r_imm ty3 (k := 0) hI58 rfl rfl rfl (v := .int .i64 _) rfl) <| wl_h hS44.toHeld (r_assign (v := .int .i64 _) rfl) <| wl_h hS44.toHeld (r_assign (v := .int .i64 _) rfl) <| wl_nil <| c_seq <| c_seq <| c_region <| wl_h hS44.toHeld (r_move (v := .int .i64 _) rfl) ?_
  refine wl_h hS44.toHeld (r_move (v := .slice _ _ _) rfl) <| wl_h hS44.toHeld (r_len Try.underlying35 (a := _) (n := _) (c := _) rfl) <| wl_h hS44.toHeld (r_geq (a := _) (b := _) rfl rfl) <| wl_nil <| c_cond (c := _) rfl (fun h60 => ?_) (fun h60 => ?_)
  ·replace hM := bif_t h60 hM
   refine c_seq <| c_region <| wl_h hS44.toHeld (r_assign (v := .int .i64 _) rfl) <| wl_nil <| c_ret <| q_retb ?_
   refine q_retl <| q_retb <| ret_tmp (t := 4) rfl (v := .int .i64 _) rfl ?_
   obtain rfl := some_eq hM
   exact ⟨rfl, hS44⟩
  ·replace hM := bif_f h60 hM
   refine c_skip <| c_seq <| c_region <| wl_h hS44.toHeld (r_move (v := .slice _ _ _) rfl) <| wl_h hS44.toHeld (r_move (v := .int .i64 _) rfl) ?_
   obtain ⟨x61, hx62, h63, h64, hM⟩ := getK_ok hM
   obtain ⟨b65, o66, rfl⟩ := RSl.elem_a hr9 hx62
   obtain ⟨cs67, hI68, hR69⟩ := RSl.elem_at hr9 hx62
   obtain rfl := hR69
   refine wl_h hS44.toHeld (r_indexAddr Try.underlying35 ty3 (b := _) (o := _) (n := _) (c := _) (i := x40) rfl rfl h63 (RSl.lt hr9 h64)) <| wl_h hS44.toHeld (r_imm ty3 (k := 0) hI68 rfl rfl rfl (v := .int .i64 _) rfl) <| wl_h hS44.toHeld (r_assign (v := .int .i64 _) rfl) <| wl_nil <| c_seq <| c_region <| wl_h hS44.toHeld (r_move (v := .int .i64 _) rfl) ?_
   refine wl_h hS44.toHeld (r_move (v := .int .i64 _) rfl) ?_
   obtain ⟨r70, hq71, hM⟩ := bnd_ok hM
   refine wl_call ent80 (vals := [.int .i64 _, .int .i64 _]) rfl (cg80 hS44 hq71) ?_
   rintro _ w73 ⟨rfl, hS74⟩
   refine wl_h hS74.toHeld (r_assign (v := .int .i64 _) rfl) <| wl_nil <| c_seq <| c_region <| wl_h hS74.toHeld (r_move (v := .int .i64 _) rfl) ?_
   refine wl_h hS74.toHeld (r_neq (a := _) (b := _) rfl rfl) <| wl_nil <| c_cond (c := _) rfl (fun h75 => ?_) (fun h75 => ?_)
   ·replace hM := bif_t h75 hM
    refine c_seq <| c_region <| wl_h hS74.toHeld (r_move (v := .int .i64 _) rfl) <| wl_h hS74.toHeld (r_assign (v := .int .i64 _) rfl) <| wl_nil <| c_ret <| q_retb ?_
    refine q_retl <| q_retb <| ret_tmp (t := 4) rfl (v := .int .i64 _) rfl ?_
    obtain rfl := some_eq hM
    exact ⟨rfl, hS74⟩
   ·replace hM := bif_f h75 hM
    refine c_skip <| c_nil <| q_norm <| c_region ?_
    obtain ⟨hc76, hM⟩ := chk_ok hM
    refine wl_h hS74.toHeld (r_add (a := _) (b := _) rfl rfl (ok_lo hc76) (ok_hi hc76)) <| wl_h hS74.toHeld (r_move (v := .int .i64 _) rfl) <| wl_nil <| c_nil <| q_loop ?_
    exact ⟨k_0, Nat.lt_succ_self _, x40 + 1, hM, hS74, rfl, rfl, rfl, rfl, rfl⟩
 ·replace hM := bif_f h50 hM
  refine c_exit <| q_loopx <| q_hit <| c_seq <| c_seq <| c_region <| wl_h hS44.toHeld (r_move (v := .slice _ _ _) rfl) ?_
  refine wl_h hS44.toHeld (r_len Try.underlying35 (a := _) (n := _) (c := _) rfl) <| wl_h hS44.toHeld (r_move (v := .slice _ _ _) rfl) <| wl_h hS44.toHeld (r_len Try.underlying35 (a := _) (n := _) (c := _) rfl) <| wl_h hS44.toHeld (r_lss (a := _) (b := _) rfl rfl) <| wl_nil <| c_cond (c := _) rfl (fun h77 => ?_) (fun h77 => ?_)
  ·replace hM := bif_t h77 hM
   refine c_seq <| c_region <| wl_h hS44.toHeld (r_assign (v := .int .i64 _) rfl) <| wl_nil <| c_ret <| ret_tmp (t := 4) rfl (v := .int .i64 _) rfl ?_
   obtain rfl := some_eq hM
   exact ⟨rfl, hS44⟩
  ·replace hM := bif_f h77 hM
   refine c_skip <| c_seq <| c_region <| wl_h hS44.toHeld (r_assign (v := .int .i64 _) rfl) <| wl_nil <| c_ret <| ret_tmp (t := 4) rfl (v := .int .i64 _) rfl ?_
   obtain rfl := some_eq hM
   exact ⟨rfl, hS44⟩

theorem cg61 {m : Mem} {L : List Atom} {w : World} {cs1 : List Value} {p3 : Plan} (hS : St w m L) (hx2 : RPlan m cs1 p3) {fuel : Nat} {r : (List Int)} (hM : mg61 fuel p3 = some r) : Calls P0 61 [.agg cs1.toArray].toArray w (Ret fun v w' => ∃ (a0 : Option Addr) (n0 : Nat) (c0 : Nat) (cs0 : List Value), v = .slice a0 n0 c0 ∧ n0 = r.length ∧ RCs 1 RInt m cs0 r ∧ St w' m (.row (.slice a0 n0 c0) 3 1 cs0 :: L)) := by
 rw [mg61] at hM
 have hk8 := hx2
 obtain ⟨a4, n5, c6, rfl, hr7⟩ := hx2
 obtain rfl := hr7.1
 refine enter Try.func61 rfl Try.ntmps61 (Nat.le_of_ble_eq_true rfl) ?_
 refine c_seq <| c_region <| wl_box hS (v := .agg #[.bool _, .slice _ _ _, .int .i64 _]) rfl (cs := [.bool _, .slice _ _ _, .int .i64 _]) rfl ?_
 intro b9 w10 hS11
 refine wl_h hS11.toHeld (r_assign (v := .slice _ _ _) rfl) <| wl_nil <| c_seq <| c_region <| wl_h hS11.toHeld (r_assign (v := .slice _ _ _) rfl) ?_
 refine wl_nil <| c_seq <| c_seq <| c_region <| wl_h hS11.toHeld (r_fieldAddr fld59_1 (b := _) (o := _) rfl) ?_
 refine wl_h hS11.toHeld (r_box ty36 (k := 1) .here rfl rfl rfl (v := .slice _ _ _) rfl) <| wl_h hS11.toHeld (r_len Try.underlying36 (a := _) (n := _) (c := _) rfl) <| wl_h hS11.toHeld (r_move (v := .int .i64 _) rfl) <| wl_nil <| c_block ?_
 have hS12 := hS11.weaken (.cons _ (.refl _))
 have hS171 := hS12.nilRow 3 1
 have hrc172 : RCs 1 RInt m [] ([] : List Int) := RCs.nil
 refine c_loop (fun k f w => ∃ (x173 : Int) (l174 : List Int) (a175 : Option Addr) (n176 : Nat) (c177 : Nat) (cs178 : List Value), mg61_l0 fuel p3 k x173 l174 = some r ∧ n176 = l174.length ∧ RCs 1 RInt m cs178 l174 ∧ St w m (.row (.slice a175 n176 c177) 3 1 cs178 :: L) ∧ f 3 = .slice a175 n176 c177 ∧ f 7 = .slice a4 p3.tours.length c6 ∧ f 8 = .int .i64 ((p3.tours.length : Nat) : Int) ∧ f 9 = .int .i64 x173) fuel ⟨0, ([] : List Int), none, 0, 0, [], hM, row_n (hS171.toHeld.own .here) hrc172 (by decide), hrc172, hS171, rfl, rfl, rfl, rfl⟩ ?_
 rintro k_0 f181 w182 ⟨x173, l174, a175, n176, c177, cs178, hM, hn179, hrc180, hS184, e185, e186, e187, e188⟩
 subst hn179
 refine c_know (t := 3) e185 <| c_know (t := 7) e186 <| c_know (t := 8) e187 <| c_know (t := 9) e188 ?_
 clear e185 e186 e187 e188
 rcases k_0 with _ | k_0
 · exact none_ne hM
 rw [mg61_l0] at hM
 refine c_seq <| c_region <| wl_h hS184.toHeld (r_lss (a := _) (b := _) rfl rfl) <| wl_nil <| c_seq <| c_cond (c := _) rfl (fun h189 => ?_) (fun h189 => ?_)
 ·replace hM := bif_t h189 hM
  refine c_skip <| c_seq <| c_block <| c_seq <| c_region ?_
  obtain ⟨x190, hx191, h192, h193, hM⟩ := getK_ok hM
  obtain ⟨b194, o195, rfl⟩ := RSl.elem_a hr7 hx191
  obtain ⟨cs196, hI197, hR198⟩ := RSl.elem_at hr7 hx191
  have hk203 := hR198
  obtain ⟨a199, n200, c201, rfl, hr202⟩ := hR198
  obtain rfl := hr202.1
  refine wl_h hS184.toHeld (r_indexAddr Try.underlying36 ty42 (b := _) (o := _) (n := _) (c := _) (i := x173) rfl rfl h192 (RSl.lt hr7 h193)) <| wl_h hS184.toHeld (r_imm ty42 (k := 0) hI197 rfl rfl rfl (v := .agg #[.slice _ _ _, .int .i64 _, .int .i64 _]) rfl) <| wl_alloc ty42 rfl hS184 ?_
  intro b204 w205 hS206
  refine wl_store_box ty42 hS206 rfl (v := .agg #[.slice _ _ _, .int .i64 _, .int .i64 _]) rfl (vs := [.slice _ _ _, .int .i64 _, .int .i64 _]) rfl rfl rfl .here (cs' := [.slice _ _ _, .int .i64 _, .int .i64 _]) rfl rfl ?_
  intro w207 hS208
  refine wl_nil <| c_region <| wl_h hS208.toHeld (r_move (v := .slice _ _ _) rfl) <| wl_h hS208.toHeld (r_fieldAddr fld42_0 (b := _) (o := _) rfl) <| wl_h hS208.toHeld (r_box ty35 (k := 0) .here rfl rfl rfl (v := .slice _ _ _) rfl) ?_
  obtain ⟨hc209, hM⟩ := chk_ok hM
  obtain ⟨cs210, hq211, hrc212⟩ := RSl.cells RInt.one (by decide) hr202 hS208.toHeld
  refine wl_append_src Try.underlying35 ty3 rfl (by decide) hS208 (a := _) (nn := _) (c := _) rfl (a2 := _) (k2 := _) (c2 := _) rfl (.there .here) hq211 (lim_b hc209 rfl) (lim_a hc209) ?_
  intro a213 c214 w215 hS216
  have hrc218 := RCs.append hrc180 hrc212
  generalize cs178 ++ cs210 = cs219 at hS216 hrc218
  refine wl_buildSlice Try.underlying35 ty3 rfl (by decide) (by decide) hS216 (ps := [(0, [.int .i64 _])]) rfl rfl (cs := [.int .i64 _]) rfl rfl (by decide) ?_
  intro b221 w222 hS223
  have hrc224 : RCs 1 RInt m [.int .i64 (-1)] ([(-1)] : List Int) := (RCs.cons (d := [.int .i64 (-1)]) rfl rfl RCs.nil)
  obtain ⟨hc225, hM⟩ := chk_ok hM
  refine wl_append_src Try.underlying35 ty3 rfl (by decide) hS223 (a := _) (nn := _) (c := _) rfl (a2 := _) (k2 := _) (c2 := _) rfl (.there .here) (row_src (hS223.toHeld.own .here) (RCs.allOne RInt.one (by decide) hrc224)) (lim_b hc225 rfl) (lim_a hc225) ?_
  intro a226 c227 w228 hS229
  have hrc231 := RCs.append hrc218 hrc224
  generalize cs219 ++ [.int .i64 (-1)] = cs232 at hS229 hrc231
  have hS233 := hS229.weaken (.cons_cons _ (.cons _ (.cons_cons _ (.refl _))))
  refine wl_h hS233.toHeld (r_assign (v := .slice _ _ _) rfl) <| wl_nil <| c_nil <| q_norm <| c_region ?_
  obtain ⟨hc234, hM⟩ := chk_ok hM
  refine wl_h hS233.toHeld (r_add (a := _) (b := _) rfl rfl (ok_lo hc234) (ok_hi hc234)) <| wl_h hS233.toHeld (r_move (v := .int .i64 _) rfl) <| wl_nil <| c_nil <| q_loop ?_
  have hS235 := hS233.weaken (.cons_cons _ (.cons _ (.refl _)))
  exact ⟨k_0, Nat.lt_succ_self _, x173 + 1, ((l174 ++ x190.stops) ++ [(-1)]), a226, ((l174.length + x190.stops.length) + 1), c227, cs232, hM, row_n (hS235.toHeld.own .here) hrc231 (by decide), hrc231, hS235, rfl, rfl, rfl, rfl⟩
 ·replace hM := bif_f h189 hM
  refine c_exit <| q_loopx <| q_hit <| c_seq <| c_region <| wl_h hS184.toHeld (r_move (v := .slice _ _ _) rfl) ?_
  refine wl_h hS184.toHeld (r_assign (v := .slice _ _ _) rfl) <| wl_nil <| c_ret <| ret_tmp (t := 2) rfl (v := .slice _ _ _) rfl ?_
  obtain rfl := some_eq hM
  exact ⟨a175, l174.length, c177, cs178, rfl, row_n (hS184.toHeld.own .here) hrc180 (by decide), hrc180, hS184⟩

theorem cg37 {m : Mem} {L : List Atom} {w : World} {cs1 : List Value} {p3 : Plan} {cs9 : List Value} {q11 : Plan} (hS : St w m L) (hx2 : RPlan m cs1 p3) (hx10 : RPlan m cs9 q11) {fuel : Nat} {r : Bool} (hM : mg37 fuel p3 q11 = some r) : Calls P0 37 [.agg cs1.toArray, .agg cs9.toArray].toArray w (Ret fun v w' => v = .bool r ∧ St w' m (L)) := by
 rw [mg37] at hM
 have hk8 := hx2
 obtain ⟨a4, n5, c6, rfl, hr7⟩ := hx2
 obtain rfl := hr7.1
 have hk16 := hx10
 obtain ⟨a12, n13, c14, rfl, hr15⟩ := hx10
 obtain rfl := hr15.1
 refine enter Try.func37 rfl Try.ntmps37 (Nat.le_of_ble_eq_true rfl) ?_
 refine c_seq <| c_region <| wl_box hS (v := .agg #[.bool _, .slice _ _ _, .int .i64 _]) rfl (cs := [.bool _, .slice _ _ _, .int .i64 _]) rfl ?_
 intro b17 w18 hS19
 refine wl_box hS19 (v := .agg #[.bool _, .slice _ _ _, .int .i64 _]) rfl (cs := [.bool _, .slice _ _ _, .int .i64 _]) rfl ?_
 intro b20 w21 hS22
 refine wl_h hS22.toHeld (r_assign (v := .bool _) rfl) <| wl_nil <| c_seq <| c_block <| c_seq <| c_region <| wl_h hS22.toHeld (r_fieldAddr fld59_1 (b := _) (o := _) rfl) ?_
 refine wl_h hS22.toHeld (r_box ty36 (k := 1) (.there .here) rfl rfl rfl (v := .slice _ _ _) rfl) <| wl_h hS22.toHeld (r_len Try.underlying36 (a := _) (n := _) (c := _) rfl) <| wl_h hS22.toHeld (r_fieldAddr fld59_1 (b := _) (o := _) rfl) <| wl_h hS22.toHeld (r_box ty36 (k := 1) .here rfl rfl rfl (v := .slice _ _ _) rfl) <| wl_h hS22.toHeld (r_len Try.underlying36 (a := _) (n := _) (c := _) rfl) ?_
 refine wl_h hS22.toHeld (r_neq (a := _) (b := _) rfl rfl) <| wl_h hS22.toHeld (r_assign (v := .bool _) rfl) <| wl_nil <| c_cond (c := _) rfl (fun h23 => ?_) (fun h23 => ?_)
 ·replace hM := bif_t h23 hM
  refine c_seq <| c_region <| wl_h hS22.toHeld (r_fieldAddr fld59_1 (b := _) (o := _) rfl) <| wl_h hS22.toHeld (r_box ty36 (k := 1) (.there .here) rfl rfl rfl (v := .slice _ _ _) rfl) <| wl_h hS22.toHeld (r_len Try.underlying36 (a := _) (n := _) (c := _) rfl) ?_
  refine wl_h hS22.toHeld (r_fieldAddr fld59_1 (b := _) (o := _) rfl) <| wl_h hS22.toHeld (r_box ty36 (k := 1) .here rfl rfl rfl (v := .slice _ _ _) rfl) <| wl_h hS22.toHeld (r_len Try.underlying36 (a := _) (n := _) (c := _) rfl) <| wl_h hS22.toHeld (r_lss (a := _) (b := _) rfl rfl) <| wl_h hS22.toHeld (r_assign (v := .bool _) rfl) ?_
  refine wl_nil <| c_ret <| q_retb <| ret_tmp (t := 4) rfl (v := .bool _) rfl ?_
  obtain rfl := some_eq hM
  have hS24 := hS22.weaken (.cons _ (.cons _ (.refl _)))
  exact ⟨rfl, hS24⟩
 ·replace hM := bif_f h23 hM
  refine c_seq <| c_region <| wl_h hS22.toHeld (r_fieldAddr fld59_2 (b := _) (o := _) rfl) <| wl_h hS22.toHeld (r_box ty3 (k := 2) (.there .here) rfl rfl rfl (v := .int .i64 _) rfl) <| wl_h hS22.toHeld (r_fieldAddr fld59_2 (b := _) (o := _) rfl) ?_
  refine wl_h hS22.toHeld (r_box ty3 (k := 2) .here rfl rfl rfl (v := .int .i64 _) rfl) <| wl_h hS22.toHeld (r_neq (a := _) (b := _) rfl rfl) <| wl_h hS22.toHeld (r_assign (v := .bool _) rfl) <| wl_nil <| c_cond (c := _) rfl (fun h25 => ?_) (fun h25 => ?_)
  ·replace hM := bif_t h25 hM
   refine c_seq <| c_region <| wl_h hS22.toHeld (r_fieldAddr fld59_2 (b := _) (o := _) rfl) <| wl_h hS22.toHeld (r_box ty3 (k := 2) (.there .here) rfl rfl rfl (v := .int .i64 _) rfl) <| wl_h hS22.toHeld (r_fieldAddr fld59_2 (b := _) (o := _) rfl) ?_
   refine wl_h hS22.toHeld (r_box ty3 (k := 2) .here rfl rfl rfl (v := .int .i64 _) rfl) <| wl_h hS22.toHeld (r_lss (a := _) (b := _) rfl rfl) <| wl_h hS22.toHeld (r_assign (v := .bool _) rfl) <| wl_nil <| c_ret <| q_retb ?_
   refine ret_tmp (t := 4) rfl (v := .bool _) rfl ?_
   obtain rfl := some_eq hM
   have hS26 := hS22.weaken (.cons _ (.cons _ (.refl _)))
   exact ⟨rfl, hS26⟩
  ·replace hM := bif_f h25 hM
   refine c_skip <| c_nil <| q_norm <| c_seq ?_
   have hH75 := (hS22.weaken (.cons_cons _ (.cons_cons _ (.refl _)))).toHeld
   refine c_draw (k := 7) (fun w => Held w m (.box b20 59 [.bool q11.ok, .slice a12 q11.tours.length c14, .int .i64 q11.takes] :: .box b17 59 [.bool p3.ok, .slice a4 p3.tours.length c6, .int .i64 p3.takes] :: L)) mixed rfl ?_
   replace hH75 := hH75.drew1
   have hS76 := hS22.drew1
   refine d_v (i := 0) rfl (by kernel_rfl) rfl (r_box ty59 (k := 0) (.there .here) rfl rfl rfl (v := .agg #[.bool _, .slice _ _ _, .int .i64 _]) rfl) hH75 ?_
   refine d_v (i := 2) rfl (by kernel_rfl) rfl (r_box ty59 (k := 0) .here rfl rfl rfl (v := .agg #[.bool _, .slice _ _ _, .int .i64 _]) rfl) hH75 ?_
   refine d_all (rs := [1]) (by kernel_rfl) (by simp) (fun j hj o ho => ?_)
   obtain rfl : j = 1 := by simpa using hj
   cases ho
   obtain ⟨r77, hq78, hM⟩ := bnd_ok hM
   refine wl_call ent61 (vals := [.agg #[.bool _, .slice _ _ _, .int .i64 _]]) rfl (cg61 hS76 hk8 hq78) ?_
   rintro _ w86 ⟨a80, n81, c82, cs83, rfl, rfl, hrc84, hS87⟩
   refine wl_nil ?_
   have hH88 := hS87.toHeld.mono (Mem.le_refl _) (List.Sublist.subset (.cons _ (.cons_cons _ (.cons_cons _ (.refl _)))))
   refine ⟨hH88, ?_⟩
   refine d_all (rs := [3]) (by kernel_rfl) (by simp) (fun j hj o ho => ?_)
   obtain rfl : j = 3 := by simpa using hj
   cases ho
   obtain ⟨r89, hq90, hM⟩ := bnd_ok hM
   refine wl_call ent61 (vals := [.agg #[.bool _, .slice _ _ _, .int .i64 _]]) rfl (cg61 hS87 hk16 hq90) ?_
   rintro _ w98 ⟨a92, n93, c94, cs95, rfl, rfl, hrc96, hS99⟩
   refine wl_nil ?_
   have hH100 := hS99.toHeld.mono (Mem.le_refl _) (List.Sublist.subset (.cons _ (.cons _ (.cons_cons _ (.cons_cons _ (.refl _))))))
   refine ⟨hH100, ?_⟩
   refine d_all (rs := [4]) (by kernel_rfl) (by simp) (fun j hj o ho => ?_)
   obtain rfl : j = 4 := by simpa using hj
   cases ho
   obtain ⟨m101, hm102, hS103, hr104, back105⟩ := hS99.lend (.there .here) hrc84 RInt.mono (by decide)
   have le106 := hm102
   have hrc107 := RCs.mono RInt.mono hrc96 hm102
   obtain ⟨m108, hm109, hS110, hr111, back112⟩ := hS103.lend .here hrc107 RInt.mono (by decide)
   have le113 := Mem.le_trans le106 hm109
   have hr114 := RSl.mono RInt.mono hr104 hm109
   obtain ⟨r115, hq116, hM⟩ := bnd_ok hM
   refine wl_call ent60 (vals := [.slice _ _ _, .slice _ _ _]) rfl (cg60 hS110 hr114 hr111 hq116) ?_
   rintro _ w118 ⟨rfl, hS119⟩
   have hS120 := back112 _ _ hS119
   have hS121 := back105 _ _ hS120
   refine wl_nil ?_
   have hH122 := hS121.toHeld.mono (Mem.le_refl _) (List.Sublist.subset (.cons _ (.cons _ (.cons_cons _ (.cons_cons _ (.refl _))))))
   refine ⟨hH122, ?_⟩
   refine d_v (i := 5) rfl (by kernel_rfl) rfl (r_lss (a := _) (b := _) rfl rfl) hH122 ?_
   refine d_v (i := 6) rfl (by kernel_rfl) rfl (r_assign (v := .bool _) rfl) hH122 ?_
   refine d_end (by kernel_rfl) ?_
   refine c_ret <| ret_tmp (t := 4) rfl (v := .bool _) rfl ?_
   obtain rfl := some_eq hM
   have hS123 := hS121.weaken (.cons _ (.cons _ (.cons _ (.cons _ (.refl _)))))
   exact ⟨rfl, hS123⟩

theorem cg89 {m : Mem} {L : List Atom} {w : World} {a1 : Option Addr} {n2 c3 : Nat} {s5 : List Int} {v6 : Int} (hS : St w m L) (hr4 : RSl 1 RInt m a1 n2 c3 s5) {fuel : Nat} {r : Int} (hM : mg89 fuel s5 v6 = some r) : Calls P0 89 [.slice a1 n2 c3, .int .i64 v6].toArray w (Ret fun v w' => v = .int .i64 r ∧ St w' m (L)) := by
 rw [mg89] at hM
 obtain rfl := hr4.1
 refine enter Try.func89 rfl Try.ntmps89 (Nat.le_of_ble_eq_true rfl) ?_
 refine c_seq <| c_region <| wl_h hS.toHeld (r_assign (v := .int .i64 _) rfl) <| wl_nil <| c_seq <| c_seq <| c_region <| wl_h hS.toHeld (r_move (v := .slice _ _ _) rfl) ?_
 refine wl_h hS.toHeld (r_len Try.underlying35 (a := _) (n := _) (c := _) rfl) <| wl_h hS.toHeld (r_move (v := .int .i64 _) rfl) <| wl_nil <| c_block <| c_loop (fun k f w => ∃ (x20 : Int), mg89_l0 fuel s5 v6 k x20 = some r ∧ St w m (L) ∧ f 0 = .slice a1 s5.length c3 ∧ f 1 = .int .i64 v6 ∧ f 7 = .int .i64 ((s5.length : Nat) : Int) ∧ f 8 = .int .i64 x20) fuel ⟨0, hM, hS, rfl, rfl, rfl, rfl⟩ ?_
 rintro k_0 f21 w22 ⟨x20, hM, hS24, e25, e26, e27, e28⟩
 refine c_know (t := 0) e25 <| c_know (t := 1) e26 <| c_know (t := 7) e27 <| c_know (t := 8) e28 ?_
 clear e25 e26 e27 e28
 rcases k_0 with _ | k_0
 · exact none_ne hM
 rw [mg89_l0] at hM
 refine c_seq <| c_region <| wl_h hS24.toHeld (r_lss (a := _) (b := _) rfl rfl) <| wl_nil <| c_seq <| c_cond (c := _) rfl (fun h29 => ?_) (fun h29 => ?_)
 ·replace hM := bif_t h29 hM
  refine c_skip <| c_seq <| c_block <| c_seq <| c_region <| wl_h hS24.toHeld (r_move (v := .int .i64 _) rfl) ?_
  refine wl_h hS24.toHeld (r_assign (v := .int .i64 _) rfl) <| wl_nil <| c_seq <| c_region <| wl_h hS24.toHeld (r_move (v := .int .i64 _) rfl) ?_
  refine wl_h hS24.toHeld (r_move (v := .slice _ _ _) rfl) <| wl_h hS24.toHeld (r_move (v := .int .i64 _) rfl) ?_
  obtain ⟨x30, hx31, h32, h33, hM⟩ := getK_ok hM
  obtain ⟨b34, o35, rfl⟩ := RSl.elem_a hr4 hx31
  obtain ⟨cs36, hI37, hR38⟩ := RSl.elem_at hr4 hx31
  obtain rfl := hR38
  refine wl_h hS24.toHeld (r_indexAddr Try.underlying35 ty3 (b := _) (o := _) (n := _) (c := _) (i := x20) rfl rfl h32 (RSl.lt hr4 h33)) <| wl_h hS24.toHeld (r_imm ty3 (k := 0) hI37 rfl rfl rfl (v := .int .i64 _) rfl) <| wl_h hS24.toHeld (r_eql (a := _) (b := _) rfl rfl) <| wl_nil <| c_cond (c := _) rfl (fun h39 => ?_) (fun h39 => ?_)
  ·replace hM := bif_t h39 hM
   refine c_seq <| c_region <| wl_h hS24.toHeld (r_move (v := .int .i64 _) rfl) <| wl_h hS24.toHeld (r_assign (v := .int .i64 _) rfl) <| wl_nil <| c_ret <| q_retb ?_
   refine q_retl <| q_retb <| ret_tmp (t := 4) rfl (v := .int .i64 _) rfl ?_
   obtain rfl := some_eq hM
   exact ⟨rfl, hS24⟩
  ·replace hM := bif_f h39 hM
   refine c_skip <| c_nil <| q_norm <| c_region ?_
   obtain ⟨hc40, hM⟩ := chk_ok hM
   refine wl_h hS24.toHeld (r_add (a := _) (b := _) rfl rfl (ok_lo hc40) (ok_hi hc40)) <| wl_h hS24.toHeld (r_move (v := .int .i64 _) rfl) <| wl_nil <| c_nil <| q_loop ?_
   exact ⟨k_0, Nat.lt_succ_self _, x20 + 1, hM, hS24, rfl, rfl, rfl, rfl⟩
 ·replace hM := bif_f h29 hM
  refine c_exit <| q_loopx <| q_hit <| c_seq <| c_region <| wl_h hS24.toHeld (r_assign (v := .int .i64 _) rfl) ?_
  refine wl_nil <| c_ret <| ret_tmp (t := 4) rfl (v := .int .i64 _) rfl ?_
  obtain rfl := some_eq hM
  exact ⟨rfl, hS24⟩

theorem cg82 {m : Mem} {L : List Atom} {w : World} {a1 : Option Addr} {n2 c3 : Nat} {s5 : List Int} {v6 : Int} (hS : St w m L) (hr4 : RSl 1 RInt m a1 n2 c3 s5) {fuel : Nat} {r : Bool} (hM : mg82 fuel s5 v6 = some r) : Calls P0 82 [.slice a1 n2 c3, .int .i64 v6].toArray w (Ret fun v w' => v = .bool r ∧ St w' m (L)) := by
 rw [mg82] at hM
 obtain rfl := hr4.1
 refine enter Try.func82 rfl Try.ntmps82 (Nat.le_of_ble_eq_true rfl) ?_
 refine c_seq <| c_region <| wl_h hS.toHeld (r_assign (v := .bool _) rfl) <| wl_nil <| c_seq <| c_region <| wl_h hS.toHeld (r_move (v := .slice _ _ _) rfl) ?_
 refine wl_h hS.toHeld (r_move (v := .int .i64 _) rfl) ?_
 obtain ⟨r7, hq8, hM⟩ := bnd_ok hM
 refine wl_call ent89 (vals := [.slice _ _ _, .int .i64 _]) rfl (cg89 hS hr4 hq8) ?_
 rintro _ w10 ⟨rfl, hS11⟩
 refine wl_h hS11.toHeld (r_geq (a := _) (b := _) rfl rfl) <| wl_h hS11.toHeld (r_assign (v := .bool _) rfl) <| wl_nil <| c_ret <| ret_tmp (t := 4) rfl (v := .bool _) rfl ?_
 obtain rfl := some_eq hM
 exact ⟨rfl, hS11⟩

theorem cg81_all (fuel : Nat) : ∀ {m : Mem} {L : List Atom} {w : World} {b3 : Nat} {a4 : Option Addr} {n5 c6 : Nat} {cs9 : List Value} {y8 : List Int} {b32 : Nat} {a33 : Option Addr} {n34 c35 : Nat} {o37 : Option (List Int)} {y38 : Int} {y39 : Int} {b43 : Nat} {from1 : Int} {at2 : Int} {b10 : Nat} {a12 : Option Addr} {n13 c14 : Nat} {y16 : (List Int)} {b17 : Nat} {a19 : Option Addr} {n20 c21 : Nat} {y23 : (List Stop)} {a24 : Option Addr} {n25 c26 : Nat} {y28 : (List (List Int))} {y29 : Int} {y30 : Int} {y31 : Int} {b40 : Nat} {y42 : Int} (hS : St w m (.box b3 35 [.slice a4 n5 c6] :: .row (.slice a4 n5 c6) 3 1 cs9 :: .box b32 42 [.slice a33 n34 c35, .int .i64 y38, .int .i64 y39] :: .box b43 142 [.func (.func 81) #[] #[.pointer (some ⟨b3, 0, none⟩), .pointer (some ⟨b10, 0, none⟩), .pointer (some ⟨b17, 0, none⟩), .pointer (some ⟨b32, 0, none⟩), .pointer (some ⟨b40, 0, none⟩), .pointer (some ⟨b43, 0, none⟩)]] :: L)) (hr7 : RCs 1 RInt m cs9 y8) (hr36 : ROp 1 RInt m a33 n34 c35 o37)  (hr15 : RSl 1 RInt m a12 n13 c14 y16) (hb11 : K.Own L (.box b10 35 [.slice a12 n13 c14])) (hr22 : RSl 5 RStop m a19 n20 c21 y23) (hr27 : RSl 1 (RS 1 RInt) m a24 n25 c26 y28) (hb18 : K.Own L (.box b17 26 [.slice a19 n20 c21, .slice a24 n25 c26, .int .i64 y29, .int .i64 y30, .int .i64 y31])) (hb41 : K.Own L (.box b40 3 [.int .i64 y42])) {r : (List Int) × (Option (List Int)) × Int × Int} (hM : mg81 fuel from1 at2 y8 y16 y23 y28 y29 y30 y31 o37 y38 y39 y42 = some r), Calls P0 81 [.int .i64 from1, .int .i64 at2, .pointer (some ⟨b3, 0, none⟩), .pointer (some ⟨b10, 0, none⟩), .pointer (some ⟨b17, 0, none⟩), .pointer (some ⟨b32, 0, none⟩), .pointer (some ⟨b40, 0, none⟩), .pointer (some ⟨b43, 0, none⟩)].toArray w (Ret fun v w' => ∃ (m' : Mem) (a0 : Option Addr) (n0 : Nat) (c0 : Nat) (cs0 : List Value) (a1 : Option Addr) (n1 : Nat) (c1 : Nat), v = .tuple #[] ∧ m ≤ m' ∧ n0 = r.1.length ∧ RCs 1 RInt m' cs0 r.1 ∧ ROp 1 RInt m' a1 n1 c1 r.2.1 ∧ St w' m' (.box b3 35 [.slice a0 n0 c0] :: .row (.slice a0 n0 c0) 3 1 cs0 :: .box b32 42 [.slice a1 n1 c1, .int .i64 r.2.2.1, .int .i64 r.2.2.2] :: .box b43 142 [.func (.func 81) #[] #[.pointer (some ⟨b3, 0, none⟩), .pointer (some ⟨b10, 0, none⟩), .pointer (some ⟨b17, 0, none⟩), .pointer (some ⟨b32, 0, none⟩), .pointer (some ⟨b40, 0, none⟩), .pointer (some ⟨b43, 0, none⟩)]] :: L)) := by
 induction fuel with
 | zero => intros; rename_i hM; exact none_ne hM
 | succ fuel ih =>
 intro m L w b3 a4 n5 c6 cs9 y8 b32 a33 n34 c35 o37 y38 y39 b43 from1 at2 b10 a12 n13 c14 y16 b17 a19 n20 c21 y23 a24 n25 c26 y28 y29 y30 y31 b40 y42 hS hr7 hr36 hr15 hb11 hr22 hr27 hb18 hb41 r hM
 rw [mg81] at hM
 obtain rfl := hr15.1
 obtain rfl := hr22.1
 obtain rfl := hr27.1
 obtain rfl := row_n (hS.toHeld.own (.there .here)) hr7 (by decide)
 obtain rfl := (ROp.rsl hr36).1
 refine enter Try.func81 rfl Try.ntmps81 (Nat.le_of_ble_eq_true rfl) ?_
 refine c_seq <| c_seq <| c_region <| wl_h hS.toHeld (r_box ty35 (k := 0) .here rfl rfl rfl (v := .slice _ _ _) rfl) <| wl_h hS.toHeld (r_len Try.underlying35 (a := _) (n := _) (c := _) rfl) ?_
 refine wl_h hS.toHeld (r_box ty35 (k := 0) (.there (.there (.there (.there hb11)))) rfl rfl rfl (v := .slice _ _ _) rfl) <| wl_h hS.toHeld (r_len Try.underlying35 (a := _) (n := _) (c := _) rfl) <| wl_h hS.toHeld (r_eql (a := _) (b := _) rfl rfl) <| wl_nil <| c_cond (c := _) rfl (fun h44 => ?_) (fun h44 => ?_)
 ·replace hM := bif_t h44 hM
  refine c_seq <| c_region <| wl_h hS.toHeld (r_move (v := .int .i64 _) rfl) <| wl_h hS.toHeld (r_fieldAddr fld26_1 (b := _) (o := _) rfl) <| wl_h hS.toHeld (r_box ty24 (k := 1) (.there (.there (.there (.there hb18)))) rfl rfl rfl (v := .slice _ _ _) rfl) ?_
  refine wl_h hS.toHeld (r_move (v := .int .i64 _) rfl) ?_
  obtain ⟨x45, hx46, h47, h48, hM⟩ := getK_ok hM
  obtain ⟨b49, o50, rfl⟩ := RSl.elem_a hr27 hx46
  obtain ⟨cs51, hI52, hR53⟩ := RSl.elem_at hr27 hx46
  obtain ⟨a54, n55, c56, rfl, hr57⟩ := hR53
  obtain rfl := hr57.1
  refine wl_h hS.toHeld (r_indexAddr Try.underlying24 ty35 (b := _) (o := _) (n := _) (c := _) (i := from1) rfl rfl h47 (RSl.lt hr27 h48)) <| wl_h hS.toHeld (r_imm ty35 (k := 0) hI52 rfl rfl rfl (v := .slice _ _ _) rfl) ?_
  obtain ⟨x58, hx59, h60, h61, hM⟩ := getK_ok hM
  obtain ⟨b62, o63, rfl⟩ := RSl.elem_a hr57 hx59
  obtain ⟨cs64, hI65, hR66⟩ := RSl.elem_at hr57 hx59
  obtain rfl := hR66
  refine wl_h hS.toHeld (r_indexAddr Try.underlying35 ty3 (b := _) (o := _) (n := _) (c := _) (i := 0) rfl rfl h60 (RSl.lt hr57 h61)) <| wl_h hS.toHeld (r_imm ty3 (k := 0) hI65 rfl rfl rfl (v := .int .i64 _) rfl) ?_
  obtain ⟨hc67, hM⟩ := chk_ok hM
  refine wl_h hS.toHeld (r_add (a := _) (b := _) rfl rfl (ok_lo hc67) (ok_hi hc67)) <| wl_h hS.toHeld (r_assign (v := .int .i64 _) rfl) <| wl_nil <| c_seq <| c_seq <| c_region <| wl_h hS.toHeld (r_move (v := .int .i64 _) rfl) ?_
  refine wl_h hS.toHeld (r_fieldAddr fld26_4 (b := _) (o := _) rfl) <| wl_h hS.toHeld (r_box ty3 (k := 4) (.there (.there (.there (.there hb18)))) rfl rfl rfl (v := .int .i64 _) rfl) <| wl_h hS.toHeld (r_leq (a := _) (b := _) rfl rfl) <| wl_h hS.toHeld (r_move (v := .bool _) rfl) <| wl_split rfl (c := _) (t := 34) (fun h68 => ?_) (fun h68 => ?_)
  ·replace hM := bif_t h68 hM
   refine wl_on (t := 34) rfl rfl ?_
   refine wl_h hS.toHeld (r_fieldAddr fld42_0 (b := _) (o := _) rfl) <| wl_on (t := 34) rfl rfl ?_
   refine wl_h hS.toHeld (r_box ty35 (k := 0) (.there (.there .here)) rfl rfl rfl (v := .slice _ _ _) rfl) <| wl_on (t := 34) rfl rfl ?_
   refine wl_h hS.toHeld (r_nil_eqlO Try.underlying35 rfl rfl (ROp.isNone hr36)) <| wl_on (t := 34) rfl rfl ?_
   refine wl_h hS.toHeld (r_move (v := .bool _) rfl) <| wl_split rfl (c := _) (t := 38) (fun h69 => ?_) (fun h69 => ?_)
   ·replace hM := bif_t h69 hM
    refine wl_off (t := 38) (b := true) rfl rfl rfl ?_
    refine wl_off (t := 38) (b := true) rfl rfl rfl ?_
    refine wl_off (t := 38) (b := true) rfl rfl rfl ?_
    refine wl_off (t := 38) (b := true) rfl rfl rfl ?_
    refine wl_on (t := 34) rfl rfl ?_
    refine wl_h hS.toHeld (r_pick_t rfl (v := .bool _) rfl) <| wl_h hS.toHeld (r_pick_t rfl (v := .bool _) rfl) <| wl_nil <| c_true rfl ?_
    obtain ⟨r78, hq79, hM⟩ := bnd_ok hM
    have hH105 := (hS.weaken (.cons_cons _ (.cons_cons _ (.cons _ (.cons_cons _ (.refl _)))))).toHeld
    refine c_drawJ (k := 6) (fun f w => ∃ (a99 : Option Addr) (n100 : Nat) (c101 : Nat) (cs102 : List Value), n100 = (r78).length ∧ RCs 1 RInt m cs102 r78 ∧ St w m (.box b3 35 [.slice a4 y8.length c6] :: .row (.slice a4 y8.length c6) 3 1 cs9 :: .box b43 142 [.func (.func 81) #[] #[.pointer (some ⟨b3, 0, none⟩), .pointer (some ⟨b10, 0, none⟩), .pointer (some ⟨b17, 0, none⟩), .pointer (some ⟨b32, 0, none⟩), .pointer (some ⟨b40, 0, none⟩), .pointer (some ⟨b43, 0, none⟩)]] :: .row (.slice a99 n100 c101) 3 1 cs102 :: .box b32 42 [.slice a99 n100 c101, .int .i64 y42, .int .i64 (at2 + x58)] :: L)) (fun w => Held w m (.box b3 35 [.slice a4 y8.length c6] :: .row (.slice a4 y8.length c6) 3 1 cs9 :: .box b43 142 [.func (.func 81) #[] #[.pointer (some ⟨b3, 0, none⟩), .pointer (some ⟨b10, 0, none⟩), .pointer (some ⟨b17, 0, none⟩), .pointer (some ⟨b32, 0, none⟩), .pointer (some ⟨b40, 0, none⟩), .pointer (some ⟨b43, 0, none⟩)]] :: L)) mixed rfl ?_ ?_
    ·replace hH105 := hH105.drew1
     have hS106 := hS.drew1
     refine d_v (i := 0) rfl (by kernel_rfl) rfl (r_box ty35 (k := 0) .here rfl rfl rfl (v := .slice _ _ _) rfl) hH105 ?_
     refine d_v (i := 3) rfl (by kernel_rfl) rfl (r_move (v := .int .i64 _) rfl) hH105 ?_
     refine d_all (rs := [1, 2]) (by kernel_rfl) (by simp) (fun j hj o ho => ?_)
     simp only [List.mem_cons, List.not_mem_nil, or_false] at hj
     rcases hj with rfl | rfl
     ·cases ho
      obtain ⟨m107, hm108, hS109, hr110, back111⟩ := hS106.lend (.there .here) hr7 RInt.mono (by decide)
      have le112 := hm108
      refine wl_call ent20 (vals := [.slice _ _ _]) rfl (cg20 hS109 hr110 hq79) ?_
      rintro _ w120 ⟨a114, n115, c116, cs117, rfl, rfl, hrc118, hS121⟩
      have hS122 := back111 _ _ hS121
      have hrc123 := RCs.move (m' := m) RInt.any hrc118
      refine wl_nil ?_
      have hS125 := hS122.front (.there (.there (.there (.there .here))))
      have hS126 := hS125.front (.there .here)
      have hS127 := hS126.front (.there (.there (.there .here)))
      have hH124 := hS127.toHeld.mono (Mem.le_refl _) (List.Sublist.subset (.cons_cons _ (.cons_cons _ (.cons_cons _ (.cons _ (.cons _ (.refl _)))))))
      refine ⟨hH124, ?_⟩
      refine d_all (rs := [2]) (by kernel_rfl) (by simp) (fun j hj o ho => ?_)
      obtain rfl : j = 2 := by simpa using hj
      cases ho
      refine wl_h hS127.toHeld (r_box ty3 (k := 0) (.there (.there (.there (.there (.there hb41))))) rfl rfl rfl (v := .int .i64 _) rfl) <| wl_nil ?_
      have hH128 := hS127.toHeld.mono (Mem.le_refl _) (List.Sublist.subset (.cons_cons _ (.cons_cons _ (.cons_cons _ (.cons _ (.cons _ (.refl _)))))))
      refine ⟨hH128, ?_⟩
      refine d_v (i := 4) rfl (by kernel_rfl) rfl (r_build ty42 st42 (ps := [(0, [.slice _ _ _]), (1, [.int .i64 _]), (2, [.int .i64 _])]) rfl rfl (cs := [.slice _ _ _, .int .i64 _, .int .i64 _]) rfl) hH128 ?_
      refine d_all (rs := [5]) (by kernel_rfl) (by simp) (fun j hj o ho => ?_)
      obtain rfl : j = 5 := by simpa using hj
      cases ho
      refine wl_store_box ty42 hS127 rfl (v := .agg #[.slice _ _ _, .int .i64 _, .int .i64 _]) rfl (vs := [.slice _ _ _, .int .i64 _, .int .i64 _]) rfl rfl rfl (.there (.there (.there (.there .here)))) (cs' := [.slice _ _ _, .int .i64 _, .int .i64 _]) rfl rfl ?_
      intro w129 hS130
      refine wl_nil ?_
      have hH131 := hS130.toHeld.mono (Mem.le_refl _) (List.Sublist.subset (.cons_cons _ (.cons_cons _ (.cons_cons _ (.cons _ (.cons _ (.refl _)))))))
      refine ⟨hH131, ?_⟩
      refine d_end (by kernel_rfl) ?_
      exact ⟨_, _, _, _, row_n (hS130.toHeld.own (.there (.there (.there .here)))) hrc123 (by decide), hrc123, hS130⟩
     ·cases ho
      refine wl_h hS106.toHeld (r_box ty3 (k := 0) (.there (.there (.there (.there hb41)))) rfl rfl rfl (v := .int .i64 _) rfl) <| wl_nil ?_
      have hH132 := hS106.toHeld.mono (Mem.le_refl _) (List.Sublist.subset (.cons_cons _ (.cons_cons _ (.cons _ (.cons_cons _ (.refl _))))))
      refine ⟨hH132, ?_⟩
      refine d_all (rs := [1]) (by kernel_rfl) (by simp) (fun j hj o ho => ?_)
      obtain rfl : j = 1 := by simpa using hj
      cases ho
      obtain ⟨m133, hm134, hS135, hr136, back137⟩ := hS106.lend (.there .here) hr7 RInt.mono (by decide)
      have le138 := hm134
      refine wl_call ent20 (vals := [.slice _ _ _]) rfl (cg20 hS135 hr136 hq79) ?_
      rintro _ w146 ⟨a140, n141, c142, cs143, rfl, rfl, hrc144, hS147⟩
      have hS148 := back137 _ _ hS147
      have hrc149 := RCs.move (m' := m) RInt.any hrc144
      refine wl_nil ?_
      have hS151 := hS148.front (.there (.there (.there (.there .here))))
      have hS152 := hS151.front (.there .here)
      have hS153 := hS152.front (.there (.there (.there .here)))
      have hH150 := hS153.toHeld.mono (Mem.le_refl _) (List.Sublist.subset (.cons_cons _ (.cons_cons _ (.cons_cons _ (.cons _ (.cons _ (.refl _)))))))
      refine ⟨hH150, ?_⟩
      refine d_v (i := 4) rfl (by kernel_rfl) rfl (r_build ty42 st42 (ps := [(0, [.slice _ _ _]), (1, [.int .i64 _]), (2, [.int .i64 _])]) rfl rfl (cs := [.slice _ _ _, .int .i64 _, .int .i64 _]) rfl) hH150 ?_
      refine d_all (rs := [5]) (by kernel_rfl) (by simp) (fun j hj o ho => ?_)
      obtain rfl : j = 5 := by simpa using hj
      cases ho
      refine wl_store_box ty42 hS153 rfl (v := .agg #[.slice _ _ _, .int .i64 _, .int .i64 _]) rfl (vs := [.slice _ _ _, .int .i64 _, .int .i64 _]) rfl rfl rfl (.there (.there (.there (.there .here)))) (cs' := [.slice _ _ _, .int .i64 _, .int .i64 _]) rfl rfl ?_
      intro w154 hS155
      refine wl_nil ?_
      have hH156 := hS155.toHeld.mono (Mem.le_refl _) (List.Sublist.subset (.cons_cons _ (.cons_cons _ (.cons_cons _ (.cons _ (.cons _ (.refl _)))))))
      refine ⟨hH156, ?_⟩
      refine d_end (by kernel_rfl) ?_
      exact ⟨_, _, _, _, row_n (hS155.toHeld.own (.there (.there (.there .here)))) hrc149 (by decide), hrc149, hS155⟩
    ·rintro f158 w159 ⟨a99, n100, c101, cs102, hn103, hrc104, hS157⟩
     subst hn103
     refine c_ret <| ret_none rfl ?_
     obtain ⟨m160, hm161, hS162, hr163⟩ := hS157.freezeR (.there (.there (.there .here))) hrc104 RInt.mono (by decide)
     have le165 := hm161
     replace hr7 := RCs.mono RInt.mono hr7 hm161
     replace hr15 := RSl.mono RInt.mono hr15 hm161
     replace hr22 := RSl.mono RStop.mono hr22 hm161
     replace hr27 := RSl.mono (RS.mono RInt.mono) hr27 hm161
     replace hr36 := ROp.mono RInt.mono hr36 hm161
     replace hr57 := RSl.mono RInt.mono hr57 hm161
     replace hI52 := Imm.mono hI52 hm161
     replace hI65 := Imm.mono hI65 hm161
     replace hrc104 := RCs.mono RInt.mono hrc104 hm161
     obtain ⟨hc166, hM⟩ := chk_ok hM
     have ho167 := ROp.some hr163 hc166
     obtain rfl := some_eq hM
     have hS168 := hS162.front (.there (.there .here))
     have hS169 := hS168.front (.there (.there (.there .here)))
     have hS170 := hS169.front (.there (.there (.there .here)))
     have hS171 := hS170.front (.there (.there (.there .here)))
     exact ⟨m160, a4, y8.length, c6, cs9, a99, r78.length, c101, rfl, le165, row_n (hS171.toHeld.own (.there .here)) hr7 (by decide), hr7, ho167, hS171⟩
   ·replace hM := bif_f h69 hM
    refine wl_on (t := 38) rfl rfl ?_
    refine wl_h hS.toHeld (r_move (v := .int .i64 _) rfl) <| wl_on (t := 38) rfl rfl ?_
    refine wl_h hS.toHeld (r_fieldAddr fld42_2 (b := _) (o := _) rfl) <| wl_on (t := 38) rfl rfl ?_
    refine wl_h hS.toHeld (r_box ty3 (k := 2) (.there (.there .here)) rfl rfl rfl (v := .int .i64 _) rfl) <| wl_on (t := 38) rfl rfl ?_
    refine wl_h hS.toHeld (r_lss (a := _) (b := _) rfl rfl) <| wl_on (t := 34) rfl rfl ?_
    refine wl_h hS.toHeld (r_pick_f rfl (v := .bool _) rfl) <| wl_h hS.toHeld (r_pick_t rfl (v := .bool _) rfl) <| wl_nil <| c_cond (c := _) rfl (fun h172 => ?_) (fun h172 => ?_)
    ·replace hM := bif_t h172 hM
     obtain ⟨r181, hq182, hM⟩ := bnd_ok hM
     have hH208 := (hS.weaken (.cons_cons _ (.cons_cons _ (.cons _ (.cons_cons _ (.refl _)))))).toHeld
     refine c_drawJ (k := 6) (fun f w => ∃ (a202 : Option Addr) (n203 : Nat) (c204 : Nat) (cs205 : List Value), n203 = (r181).length ∧ RCs 1 RInt m cs205 r181 ∧ St w m (.box b3 35 [.slice a4 y8.length c6] :: .row (.slice a4 y8.length c6) 3 1 cs9 :: .box b43 142 [.func (.func 81) #[] #[.pointer (some ⟨b3, 0, none⟩), .pointer (some ⟨b10, 0, none⟩), .pointer (some ⟨b17, 0, none⟩), .pointer (some ⟨b32, 0, none⟩), .pointer (some ⟨b40, 0, none⟩), .pointer (some ⟨b43, 0, none⟩)]] :: .row (.slice a202 n203 c204) 3 1 cs205 :: .box b32 42 [.slice a202 n203 c204, .int .i64 y42, .int .i64 (at2 + x58)] :: L)) (fun w => Held w m (.box b3 35 [.slice a4 y8.length c6] :: .row (.slice a4 y8.length c6) 3 1 cs9 :: .box b43 142 [.func (.func 81) #[] #[.pointer (some ⟨b3, 0, none⟩), .pointer (some ⟨b10, 0, none⟩), .pointer (some ⟨b17, 0, none⟩), .pointer (some ⟨b32, 0, none⟩), .pointer (some ⟨b40, 0, none⟩), .pointer (some ⟨b43, 0, none⟩)]] :: L)) mixed rfl ?_ ?_
     ·replace hH208 := hH208.drew1
      have hS209 := hS.drew1
      refine d_v (i := 0) rfl (by kernel_rfl) rfl (r_box ty35 (k := 0) .here rfl rfl rfl (v := .slice _ _ _) rfl) hH208 ?_
      refine d_v (i := 3) rfl (by kernel_rfl) rfl (r_move (v := .int .i64 _) rfl) hH208 ?_
      refine d_all (rs := [1, 2]) (by kernel_rfl) (by simp) (fun j hj o ho => ?_)
      simp only [List.mem_cons, List.not_mem_nil, or_false] at hj
      rcases hj with rfl | rfl
      ·cases ho
       obtain ⟨m210, hm211, hS212, hr213, back214⟩ := hS209.lend (.there .here) hr7 RInt.mono (by decide)
       have le215 := hm211
       refine wl_call ent20 (vals := [.slice _ _ _]) rfl (cg20 hS212 hr213 hq182) ?_
       rintro _ w223 ⟨a217, n218, c219, cs220, rfl, rfl, hrc221, hS224⟩
       have hS225 := back214 _ _ hS224
       have hrc226 := RCs.move (m' := m) RInt.any hrc221
       refine wl_nil ?_
       have hS228 := hS225.front (.there (.there (.there (.there .here))))
       have hS229 := hS228.front (.there .here)
       have hS230 := hS229.front (.there (.there (.there .here)))
       have hH227 := hS230.toHeld.mono (Mem.le_refl _) (List.Sublist.subset (.cons_cons _ (.cons_cons _ (.cons_cons _ (.cons _ (.cons _ (.refl _)))))))
       refine ⟨hH227, ?_⟩
       refine d_all (rs := [2]) (by kernel_rfl) (by simp) (fun j hj o ho => ?_)
       obtain rfl : j = 2 := by simpa using hj
       cases ho
       refine wl_h hS230.toHeld (r_box ty3 (k := 0) (.there (.there (.there (.there (.there hb41))))) rfl rfl rfl (v := .int .i64 _) rfl) <| wl_nil ?_
       have hH231 := hS230.toHeld.mono (Mem.le_refl _) (List.Sublist.subset (.cons_cons _ (.cons_cons _ (.cons_cons _ (.cons _ (.cons _ (.refl _)))))))
       refine ⟨hH231, ?_⟩
       refine d_v (i := 4) rfl (by kernel_rfl) rfl (r_build ty42 st42 (ps := [(0, [.slice _ _ _]), (1, [.int .i64 _]), (2, [.int .i64 _])]) rfl rfl (cs := [.slice _ _ _, .int .i64 _, .int .i64 _]) rfl) hH231 ?_
       refine d_all (rs := [5]) (by kernel_rfl) (by simp) (fun j hj o ho => ?_)
       obtain rfl : j = 5 := by simpa using hj
       cases ho
       refine wl_store_box ty42 hS230 rfl (v := .agg #[.slice _ _ _, .int .i64 _, .int .i64 _]) rfl (vs := [.slice _ _ _, .int .i64 _, .int .i64 _]) rfl rfl rfl (.there (.there (.there (.there .here)))) (cs' := [.slice _ _ _, .int .i64 _, .int .i64 _]) rfl rfl ?_
       intro w232 hS233
       refine wl_nil ?_
       have hH234 := hS233.toHeld.mono (Mem.le_refl _) (List.Sublist.subset (.cons_cons _ (.cons_cons _ (.cons_cons _ (.cons _ (.cons _ (.refl _)))))))
       refine ⟨hH234, ?_⟩
       refine d_end (by kernel_rfl) ?_
       exact ⟨_, _, _, _, row_n (hS233.toHeld.own (.there (.there (.there .here)))) hrc226 (by decide), hrc226, hS233⟩
      ·cases ho
       refine wl_h hS209.toHeld (r_box ty3 (k := 0) (.there (.there (.there (.there hb41)))) rfl rfl rfl (v := .int .i64 _) rfl) <| wl_nil ?_
       have hH235 := hS209.toHeld.mono (Mem.le_refl _) (List.Sublist.subset (.cons_cons _ (.cons_cons _ (.cons _ (.cons_cons _ (.refl _))))))
       refine ⟨hH235, ?_⟩
       refine d_all (rs := [1]) (by kernel_rfl) (by simp) (fun j hj o ho => ?_)
       obtain rfl : j = 1 := by simpa using hj
       cases ho
       obtain ⟨m236, hm237, hS238, hr239, back240⟩ := hS209.lend (.there .here) hr7 RInt.mono (by decide)
       have le241 := hm237
       refine wl_call ent20 (vals := [.slice _ _ _]) rfl (cg20 hS238 hr239 hq182) ?_
       rintro _ w249 ⟨a243, n244, c245, cs246, rfl, rfl, hrc247, hS250⟩
       have hS251 := back240 _ _ hS250
       have hrc252 := RCs.move (m' := m) RInt.any hrc247
       refine wl_nil ?_
       have hS254 := hS251.front (.there (.there (.there (.there .here))))
       have hS255 := hS254.front (.there .here)
       have hS256 := hS255.front (.there (.there (.there .here)))
       have hH253 := hS256.toHeld.mono (Mem.le_refl _) (List.Sublist.subset (.cons_cons _ (.cons_cons _ (.cons_cons _ (.cons _ (.cons _ (.refl _)))))))
       refine ⟨hH253, ?_⟩
       refine d_v (i := 4) rfl (by kernel_rfl) rfl (r_build ty42 st42 (ps := [(0, [.slice _ _ _]), (1, [.int .i64 _]), (2, [.int .i64 _])]) rfl rfl (cs := [.slice _ _ _, .int .i64 _, .int .i64 _]) rfl) hH253 ?_
       refine d_all (rs := [5]) (by kernel_rfl) (by simp) (fun j hj o ho => ?_)
       obtain rfl : j = 5 := by simpa using hj
       cases ho
       refine wl_store_box ty42 hS256 rfl (v := .agg #[.slice _ _ _, .int .i64 _, .int .i64 _]) rfl (vs := [.slice _ _ _, .int .i64 _, .int .i64 _]) rfl rfl rfl (.there (.there (.there (.there .here)))) (cs' := [.slice _ _ _, .int .i64 _, .int .i64 _]) rfl rfl ?_
       intro w257 hS258
       refine wl_nil ?_
       have hH259 := hS258.toHeld.mono (Mem.le_refl _) (List.Sublist.subset (.cons_cons _ (.cons_cons _ (.cons_cons _ (.cons _ (.cons _ (.refl _)))))))
       refine ⟨hH259, ?_⟩
       refine d_end (by kernel_rfl) ?_
       exact ⟨_, _, _, _, row_n (hS258.toHeld.own (.there (.there (.there .here)))) hrc252 (by decide), hrc252, hS258⟩
     ·rintro f261 w262 ⟨a202, n203, c204, cs205, hn206, hrc207, hS260⟩
      subst hn206
      refine c_ret <| ret_none rfl ?_
      obtain ⟨m263, hm264, hS265, hr266⟩ := hS260.freezeR (.there (.there (.there .here))) hrc207 RInt.mono (by decide)
      have le268 := hm264
      replace hr7 := RCs.mono RInt.mono hr7 hm264
      replace hr15 := RSl.mono RInt.mono hr15 hm264
      replace hr22 := RSl.mono RStop.mono hr22 hm264
      replace hr27 := RSl.mono (RS.mono RInt.mono) hr27 hm264
      replace hr36 := ROp.mono RInt.mono hr36 hm264
      replace hr57 := RSl.mono RInt.mono hr57 hm264
      replace hI52 := Imm.mono hI52 hm264
      replace hI65 := Imm.mono hI65 hm264
      replace hrc207 := RCs.mono RInt.mono hrc207 hm264
      obtain ⟨hc269, hM⟩ := chk_ok hM
      have ho270 := ROp.some hr266 hc269
      obtain rfl := some_eq hM
      have hS271 := hS265.front (.there (.there .here))
      have hS272 := hS271.front (.there (.there (.there .here)))
      have hS273 := hS272.front (.there (.there (.there .here)))
      have hS274 := hS273.front (.there (.there (.there .here)))
      exact ⟨m263, a4, y8.length, c6, cs9, a202, r181.length, c204, rfl, le268, row_n (hS274.toHeld.own (.there .here)) hr7 (by decide), hr7, ho270, hS274⟩
    ·replace hM := bif_f h172 hM
     refine c_skip <| c_ret <| ret_none rfl ?_
     obtain rfl := some_eq hM
     exact ⟨m, a4, y8.length, c6, cs9, a33, (o37.getD []).length, c35, rfl, Mem.le_refl _, row_n (hS.toHeld.own (.there .here)) hr7 (by decide), hr7, hr36, hS⟩
  ·replace hM := bif_f h68 hM
   refine wl_off (t := 34) (b := false) rfl rfl rfl ?_
   refine wl_off (t := 34) (b := false) rfl rfl rfl ?_
   refine wl_off (t := 34) (b := false) rfl rfl rfl ?_
   refine wl_off (t := 34) (b := false) rfl rfl rfl ?_
   refine wl_none (t := 38) rfl rfl ?_
   refine wl_none (t := 38) rfl rfl ?_
   refine wl_none (t := 38) rfl rfl ?_
   refine wl_none (t := 38) rfl rfl ?_
   refine wl_off (t := 34) (b := false) rfl rfl rfl ?_
   refine wl_h hS.toHeld (r_pick_f rfl (v := .bool _) rfl) <| wl_nil <| c_false rfl <| c_skip <| c_ret <| ret_none rfl ?_
   obtain rfl := some_eq hM
   exact ⟨m, a4, y8.length, c6, cs9, a33, (o37.getD []).length, c35, rfl, Mem.le_refl _, row_n (hS.toHeld.own (.there .here)) hr7 (by decide), hr7, hr36, hS⟩
 ·replace hM := bif_f h44 hM
  refine c_skip <| c_seq <| c_region <| wl_h hS.toHeld (r_box ty35 (k := 0) (.there (.there (.there (.there hb11)))) rfl rfl rfl (v := .slice _ _ _) rfl) <| wl_h hS.toHeld (r_len Try.underlying35 (a := _) (n := _) (c := _) rfl) ?_
  refine wl_h hS.toHeld (r_move (v := .int .i64 _) rfl) <| wl_nil <| c_block <| c_loop (fun k f w => ∃ (x451 : Int) (y452 : Option (List Int)) (y457 : Int) (y458 : Int) (l459 : List Int) (m448 : Mem) (a453 : Option Addr) (n454 : Nat) (c455 : Nat) (a460 : Option Addr) (n461 : Nat) (c462 : Nat) (cs463 : List Value), mg81_l0 fuel (mg81 fuel) from1 at2 y16 y23 y28 y29 y30 y31 y42 k x451 y452 y457 y458 l459 = some r ∧ m ≤ m448 ∧ ROp 1 RInt m448 a453 n454 c455 y452 ∧ n461 = l459.length ∧ RCs 1 RInt m448 cs463 l459 ∧ St w m448 (.box b3 35 [.slice a460 n461 c462] :: .row (.slice a460 n461 c462) 3 1 cs463 :: .box b32 42 [.slice a453 n454 c455, .int .i64 y457, .int .i64 y458] :: .box b43 142 [.func (.func 81) #[] #[.pointer (some ⟨b3, 0, none⟩), .pointer (some ⟨b10, 0, none⟩), .pointer (some ⟨b17, 0, none⟩), .pointer (some ⟨b32, 0, none⟩), .pointer (some ⟨b40, 0, none⟩), .pointer (some ⟨b43, 0, none⟩)]] :: L) ∧ f 0 = .int .i64 from1 ∧ f 1 = .int .i64 at2 ∧ f 2 = .pointer (some ⟨b3, 0, none⟩) ∧ f 4 = .pointer (some ⟨b17, 0, none⟩) ∧ f 7 = .pointer (some ⟨b43, 0, none⟩) ∧ f 50 = .slice a12 y16.length c14 ∧ f 51 = .int .i64 ((y16.length : Nat) : Int) ∧ f 52 = .int .i64 x451) fuel ⟨0, o37, y38, y39, y8, m, a33, (o37.getD []).length, c35, a4, y8.length, c6, cs9, hM, Mem.le_refl _, hr36, row_n (hS.toHeld.own (.there .here)) hr7 (by decide), hr7, hS, rfl, rfl, rfl, rfl, rfl, rfl, rfl, rfl⟩ ?_
  rintro k_0 f466 w467 ⟨x451, y452, y457, y458, l459, m448, a453, n454, c455, a460, n461, c462, cs463, hM, hm449, ho456, hn464, hrc465, hS469, e470, e471, e472, e473, e474, e475, e476, e477⟩
  replace hr7 := RCs.mono RInt.mono hr7 hm449
  replace hr15 := RSl.mono RInt.mono hr15 hm449
  replace hr22 := RSl.mono RStop.mono hr22 hm449
  replace hr27 := RSl.mono (RS.mono RInt.mono) hr27 hm449
  replace hr36 := ROp.mono RInt.mono hr36 hm449
  have le450 := hm449
  obtain rfl := (ROp.rsl ho456).1
  subst hn464
  refine c_know (t := 0) e470 <| c_know (t := 1) e471 <| c_know (t := 2) e472 <| c_know (t := 4) e473 <| c_know (t := 7) e474 ?_
  refine c_know (t := 50) e475 <| c_know (t := 51) e476 <| c_know (t := 52) e477 ?_
  clear e470 e471 e472 e473 e474 e475 e476 e477
  rcases k_0 with _ | k_0
  · exact none_ne hM
  rw [mg81_l0] at hM
  refine c_seq <| c_region <| wl_h hS469.toHeld (r_lss (a := _) (b := _) rfl rfl) <| wl_nil <| c_seq <| c_cond (c := _) rfl (fun h478 => ?_) (fun h478 => ?_)
  ·replace hM := bif_t h478 hM
   refine c_skip <| c_seq <| c_block <| c_seq <| c_region ?_
   obtain ⟨x479, hx480, h481, h482, hM⟩ := getK_ok hM
   obtain ⟨b483, o484, rfl⟩ := RSl.elem_a hr15 hx480
   obtain ⟨cs485, hI486, hR487⟩ := RSl.elem_at hr15 hx480
   obtain rfl := hR487
   refine wl_h hS469.toHeld (r_indexAddr Try.underlying35 ty3 (b := _) (o := _) (n := _) (c := _) (i := x451) rfl rfl h481 (RSl.lt hr15 h482)) <| wl_h hS469.toHeld (r_imm ty3 (k := 0) hI486 rfl rfl rfl (v := .int .i64 _) rfl) <| wl_h hS469.toHeld (r_assign (v := .int .i64 _) rfl) <| wl_nil <| c_seq <| c_seq <| c_region <| wl_h hS469.toHeld (r_box ty35 (k := 0) .here rfl rfl rfl (v := .slice _ _ _) rfl) ?_
   refine wl_h hS469.toHeld (r_move (v := .int .i64 _) rfl) ?_
   obtain ⟨m488, hm489, hS490, hr491, back492⟩ := hS469.lend (.there .here) hrc465 RInt.mono (by decide)
   have le493 := hm489
   obtain ⟨r494, hq495, hM⟩ := bnd_ok hM
   refine wl_call ent82 (vals := [.slice _ _ _, .int .i64 _]) rfl (cg82 hS490 hr491 hq495) ?_
   rintro _ w497 ⟨rfl, hS498⟩
   have hS499 := back492 _ _ hS498
   refine wl_nil <| c_cond (c := _) rfl (fun h500 => ?_) (fun h500 => ?_)
   ·replace hM := bif_t h500 hM
    refine c_exit <| q_hit <| c_region ?_
    obtain ⟨hc501, hM⟩ := chk_ok hM
    refine wl_h hS499.toHeld (r_add (a := _) (b := _) rfl rfl (ok_lo hc501) (ok_hi hc501)) <| wl_h hS499.toHeld (r_move (v := .int .i64 _) rfl) <| wl_nil <| c_nil <| q_loop ?_
    have hS502 := hS499.front (.there (.there (.there .here)))
    have hS503 := hS502.front (.there (.there (.there .here)))
    have hS504 := hS503.front (.there (.there .here))
    have hS505 := hS504.front (.there (.there (.there .here)))
    exact ⟨k_0, Nat.lt_succ_self _, x451 + 1, y452, y457, y458, l459, m448, a453, (y452.getD []).length, c455, a460, l459.length, c462, cs463, hM, le450, ho456, row_n (hS505.toHeld.own (.there .here)) hrc465 (by decide), hrc465, hS505, rfl, rfl, rfl, rfl, rfl, rfl, rfl, rfl⟩
   ·replace hM := bif_f h500 hM
    refine c_skip <| c_seq <| c_region <| wl_h hS499.toHeld (r_box ty26 (k := 0) (.there (.there (.there (.there hb18)))) rfl rfl rfl (v := .agg #[.slice _ _ _, .slice _ _ _, .int .i64 _, .int .i64 _, .int .i64 _]) rfl) <| wl_h hS499.toHeld (r_move (v := .int .i64 _) rfl) ?_
    refine wl_h hS499.toHeld (r_move (v := .int .i64 _) rfl) <| wl_h hS499.toHeld (r_move (v := .int .i64 _) rfl) ?_
    obtain ⟨r506, hq507, hM⟩ := bnd_ok hM
    refine wl_call ent51 (vals := [.agg #[.slice _ _ _, .slice _ _ _, .int .i64 _, .int .i64 _, .int .i64 _], .int .i64 _, .int .i64 _, .int .i64 _]) rfl (cg51 hS499 ⟨_, _, _, _, _, _, rfl, hr22, hr27⟩ hq507) ?_
    rintro _ w509 ⟨rfl, hS510⟩
    refine wl_h hS510.toHeld (r_move (v := .tuple #[.int .i64 _, .int .i64 _, .bool _]) rfl) <| wl_h hS510.toHeld (r_extract (vs := [.int .i64 _, .int .i64 _, .bool _]) rfl (v := .int .i64 _) rfl) <| wl_h hS510.toHeld (r_extract (vs := [.int .i64 _, .int .i64 _, .bool _]) rfl (v := .int .i64 _) rfl) <| wl_h hS510.toHeld (r_extract (vs := [.int .i64 _, .int .i64 _, .bool _]) rfl (v := .bool _) rfl) <| wl_h hS510.toHeld (r_assign (v := .int .i64 _) rfl) ?_
    refine wl_h hS510.toHeld (r_assign (v := .int .i64 _) rfl) <| wl_h hS510.toHeld (r_assign (v := .bool _) rfl) <| wl_nil <| c_seq <| c_region <| wl_h hS510.toHeld (r_move (v := .bool _) rfl) ?_
    refine wl_nil <| c_cond (c := _) rfl (fun h511 => ?_) (fun h511 => ?_)
    ·replace hM := bif_t h511 hM
     refine c_seq <| c_region <| wl_h hS510.toHeld (r_box ty35 (k := 0) (.there .here) rfl rfl rfl (v := .slice _ _ _) rfl) <| wl_h hS510.toHeld (r_move (v := .int .i64 _) rfl) <| wl_buildSlice Try.underlying35 ty3 rfl (by decide) (by decide) hS510 (ps := [(0, [.int .i64 _])]) rfl rfl (cs := [.int .i64 _]) rfl rfl (by decide) ?_
     intro b513 w514 hS515
     have hrc516 : RCs 1 RInt m448 [.int .i64 x479] ([x479] : List Int) := (RCs.cons (d := [.int .i64 x479]) rfl rfl RCs.nil)
     obtain ⟨hc517, hM⟩ := chk_ok hM
     refine wl_append_src Try.underlying35 ty3 rfl (by decide) hS515 (a := _) (nn := _) (c := _) rfl (a2 := _) (k2 := _) (c2 := _) rfl (.there .here) (row_src (hS515.toHeld.own .here) (RCs.allOne RInt.one (by decide) hrc516)) (lim_b hc517 rfl) (lim_a hc517) ?_
     intro a518 c519 w520 hS521
     have hrc523 := RCs.append hrc465 hrc516
     generalize cs463 ++ [.int .i64 x479] = cs524 at hS521 hrc523
     have hS525 := hS521.weaken (.cons_cons _ (.cons _ (.cons_cons _ (.cons_cons _ (.cons_cons _ (.refl _))))))
     refine wl_store_box ty35 hS525 rfl (v := .slice _ _ _) rfl (vs := [.slice _ _ _]) rfl rfl rfl (.there .here) (cs' := [.slice _ _ _]) rfl rfl ?_
     intro w526 hS527
     refine wl_nil <| c_seq <| c_region <| wl_h hS527.toHeld (r_box ty142 (k := 0) (.there (.there (.there .here))) rfl rfl rfl (v := .func (.func 81) #[] #[.pointer (some ⟨_, _, none⟩), .pointer (some ⟨_, _, none⟩), .pointer (some ⟨_, _, none⟩), .pointer (some ⟨_, _, none⟩), .pointer (some ⟨_, _, none⟩), .pointer (some ⟨_, _, none⟩)]) rfl) <| wl_h hS527.toHeld (r_move (v := .int .i64 _) rfl) ?_
     obtain ⟨hc528, hM⟩ := chk_ok hM
     refine wl_h hS527.toHeld (r_add (a := _) (b := _) rfl rfl (ok_lo hc528) (ok_hi hc528)) <| wl_h hS527.toHeld (r_move (v := .int .i64 _) rfl) ?_
     have hS529 := hS527.front (.there (.there (.there .here)))
     have hS530 := hS529.front (.there (.there (.there .here)))
     have hS531 := hS530.front (.there (.there .here))
     have hS532 := hS531.front (.there (.there (.there .here)))
     obtain ⟨r533, hq534, hM⟩ := bnd_ok hM
     refine wl_callv ent81 (caps := [.pointer (some ⟨_, _, none⟩), .pointer (some ⟨_, _, none⟩), .pointer (some ⟨_, _, none⟩), .pointer (some ⟨_, _, none⟩), .pointer (some ⟨_, _, none⟩), .pointer (some ⟨_, _, none⟩)]) rfl (vals := [.int .i64 _, .int .i64 _]) rfl (ih hS532 hrc523 ho456 hr15 hb11 hr22 hr27 hb18 hb41 hq534) ?_
     rintro _ w547 ⟨m535, a537, n538, c539, cs540, a543, n544, c545, rfl, hm536, rfl, hrc541, ho546, hS548⟩
     obtain rfl := (ROp.rsl ho546).1
     have le549 := Mem.le_trans le450 hm536
     replace hr7 := RCs.mono RInt.mono hr7 hm536
     replace hr15 := RSl.mono RInt.mono hr15 hm536
     replace hr22 := RSl.mono RStop.mono hr22 hm536
     replace hr27 := RSl.mono (RS.mono RInt.mono) hr27 hm536
     replace hr36 := ROp.mono RInt.mono hr36 hm536
     replace ho456 := ROp.mono RInt.mono ho456 hm536
     replace hrc465 := RCs.mono RInt.mono hrc465 hm536
     replace hI486 := Imm.mono hI486 hm536
     replace hrc516 := RCs.mono RInt.mono hrc516 hm536
     replace hrc523 := RCs.mono RInt.mono hrc523 hm536
     refine wl_nil <| c_region <| wl_h hS548.toHeld (r_box ty35 (k := 0) .here rfl rfl rfl (v := .slice _ _ _) rfl) <| wl_h hS548.toHeld (r_box ty35 (k := 0) .here rfl rfl rfl (v := .slice _ _ _) rfl) <| wl_h hS548.toHeld (r_len Try.underlying35 (a := _) (n := _) (c := _) rfl) ?_
     obtain ⟨hc550, hM⟩ := chk_ok hM
     refine wl_h hS548.toHeld (r_sub (a := _) (b := _) rfl rfl (ok_lo hc550) (ok_hi hc550)) ?_
     obtain ⟨hc551, hM⟩ := chk_ok hM
     refine wl_h hS548.toHeld (r_slice_hi Try.underlying35 ty3 (a := _) (n := _) (c := _) (h := ((r533.1.length : Nat) : Int) - 1) rfl rfl (upto_0 hc551) (upto_c hc551 (row_cap (hS548.toHeld.own (.there .here))))) ?_
     have hrc553 := RCs.take hrc541 (((r533.1.length : Nat) : Int) - 1).toNat (by rw [← row_n (hS548.toHeld.own (.there .here)) hrc541 (by decide)]; exact upto_n hc551)
     have hS552 := hS548.trunc (k := (((r533.1.length : Nat) : Int) - 1).toNat) (upto_n hc551) (.there .here)
     generalize cs540.take ((((r533.1.length : Nat) : Int) - 1).toNat * 1) = cs554 at hS552 hrc553
     refine wl_store_box ty35 hS552 rfl (v := .slice _ _ _) rfl (vs := [.slice _ _ _]) rfl rfl rfl .here (cs' := [.slice _ _ _]) rfl rfl ?_
     intro w555 hS556
     refine wl_nil <| c_nil <| q_norm <| c_region ?_
     obtain ⟨hc557, hM⟩ := chk_ok hM
     refine wl_h hS556.toHeld (r_add (a := _) (b := _) rfl rfl (ok_lo hc557) (ok_hi hc557)) <| wl_h hS556.toHeld (r_move (v := .int .i64 _) rfl) <| wl_nil <| c_nil <| q_loop ?_
     exact ⟨k_0, Nat.lt_succ_self _, x451 + 1, r533.2.1, r533.2.2.1, r533.2.2.2, (r533.1.take (((r533.1.length : Nat) : Int) - 1).toNat), m535, a543, (r533.2.1.getD []).length, c545, a537, (((r533.1.length : Nat) : Int) - 1).toNat, c539, cs554, hM, le549, ho546, row_n (hS556.toHeld.own (.there .here)) hrc553 (by decide), hrc553, hS556, rfl, rfl, rfl, rfl, rfl, rfl, rfl, rfl⟩
    ·replace hM := bif_f h511 hM
     refine c_skip <| c_nil <| q_norm <| c_region ?_
     obtain ⟨hc558, hM⟩ := chk_ok hM
     refine wl_h hS510.toHeld (r_add (a := _) (b := _) rfl rfl (ok_lo hc558) (ok_hi hc558)) <| wl_h hS510.toHeld (r_move (v := .int .i64 _) rfl) <| wl_nil <| c_nil <| q_loop ?_
     have hS559 := hS510.front (.there (.there (.there .here)))
     have hS560 := hS559.front (.there (.there (.there .here)))
     have hS561 := hS560.front (.there (.there .here))
     have hS562 := hS561.front (.there (.there (.there .here)))
     exact ⟨k_0, Nat.lt_succ_self _, x451 + 1, y452, y457, y458, l459, m448, a453, (y452.getD []).length, c455, a460, l459.length, c462, cs463, hM, le450, ho456, row_n (hS562.toHeld.own (.there .here)) hrc465 (by decide), hrc465, hS562, rfl, rfl, rfl, rfl, rfl, rfl, rfl, rfl⟩
  ·replace hM := bif_f h478 hM
   refine c_exit <| q_loopx <| q_hit <| c_nil <| end_none rfl ?_
   obtain rfl := some_eq hM
   exact ⟨m448, a460, l459.length, c462, cs463, a453, (y452.getD []).length, c455, rfl, le450, row_n (hS469.toHeld.own (.there .here)) hrc465 (by decide), hrc465, ho456, hS469⟩
theorem cg81 {m : Mem} {L : List Atom} {w : World} {b3 : Nat} {a4 : Option Addr} {n5 c6 : Nat} {cs9 : List Value} {y8 : List Int} {b32 : Nat} {a33 : Option Addr} {n34 c35 : Nat} {o37 : Option (List Int)} {y38 : Int} {y39 : Int} {b43 : Nat} {from1 : Int} {at2 : Int} {b10 : Nat} {a12 : Option Addr} {n13 c14 : Nat} {y16 : (List Int)} {b17 : Nat} {a19 : Option Addr} {n20 c21 : Nat} {y23 : (List Stop)} {a24 : Option Addr} {n25 c26 : Nat} {y28 : (List (List Int))} {y29 : Int} {y30 : Int} {y31 : Int} {b40 : Nat} {y42 : Int} (hS : St w m (.box b3 35 [.slice a4 n5 c6] :: .row (.slice a4 n5 c6) 3 1 cs9 :: .box b32 42 [.slice a33 n34 c35, .int .i64 y38, .int .i64 y39] :: .box b43 142 [.func (.func 81) #[] #[.pointer (some ⟨b3, 0, none⟩), .pointer (some ⟨b10, 0, none⟩), .pointer (some ⟨b17, 0, none⟩), .pointer (some ⟨b32, 0, none⟩), .pointer (some ⟨b40, 0, none⟩), .pointer (some ⟨b43, 0, none⟩)]] :: L)) (hr7 : RCs 1 RInt m cs9 y8) (hr36 : ROp 1 RInt m a33 n34 c35 o37)  (hr15 : RSl 1 RInt m a12 n13 c14 y16) (hb11 : K.Own L (.box b10 35 [.slice a12 n13 c14])) (hr22 : RSl 5 RStop m a19 n20 c21 y23) (hr27 : RSl 1 (RS 1 RInt) m a24 n25 c26 y28) (hb18 : K.Own L (.box b17 26 [.slice a19 n20 c21, .slice a24 n25 c26, .int .i64 y29, .int .i64 y30, .int .i64 y31])) (hb41 : K.Own L (.box b40 3 [.int .i64 y42])) {fuel : Nat} {r : (List Int) × (Option (List Int)) × Int × Int} (hM : mg81 fuel from1 at2 y8 y16 y23 y28 y29 y30 y31 o37 y38 y39 y42 = some r) : Calls P0 81 [.int .i64 from1, .int .i64 at2, .pointer (some ⟨b3, 0, none⟩), .pointer (some ⟨b10, 0, none⟩), .pointer (some ⟨b17, 0, none⟩), .pointer (some ⟨b32, 0, none⟩), .pointer (some ⟨b40, 0, none⟩), .pointer (some ⟨b43, 0, none⟩)].toArray w (Ret fun v w' => ∃ (m' : Mem) (a0 : Option Addr) (n0 : Nat) (c0 : Nat) (cs0 : List Value) (a1 : Option Addr) (n1 : Nat) (c1 : Nat), v = .tuple #[] ∧ m ≤ m' ∧ n0 = r.1.length ∧ RCs 1 RInt m' cs0 r.1 ∧ ROp 1 RInt m' a1 n1 c1 r.2.1 ∧ St w' m' (.box b3 35 [.slice a0 n0 c0] :: .row (.slice a0 n0 c0) 3 1 cs0 :: .box b32 42 [.slice a1 n1 c1, .int .i64 r.2.2.1, .int .i64 r.2.2.2] :: .box b43 142 [.func (.func 81) #[] #[.pointer (some ⟨b3, 0, none⟩), .pointer (some ⟨b10, 0, none⟩), .pointer (some ⟨b17, 0, none⟩), .pointer (some ⟨b32, 0, none⟩), .pointer (some ⟨b40, 0, none⟩), .pointer (some ⟨b43, 0, none⟩)]] :: L)) := by
 exact cg81_all fuel hS hr7 hr36 hr15 hb11 hr22 hr27 hb18 hb41 hM

theorem cg64 {m : Mem} {L : List Atom} {w : World} {cs1 : List Value} {f3 : Fleet} {a13 : Option Addr} {n14 c15 : Nat} {stops17 : List Int} (hS : St w m L) (hx2 : RFleet m cs1 f3) (hr16 : RSl 1 RInt m a13 n14 c15 stops17) {fuel : Nat} {r : Tour × Bool} (hM : mg64 fuel f3 stops17 = some r) : Calls P0 64 [.agg cs1.toArray, .slice a13 n14 c15].toArray w (Ret fun v w' => ∃ (m' : Mem) (a0 : Option Addr) (n0 : Nat) (c0 : Nat), v = .tuple #[.agg #[.slice a0 n0 c0, .int .i64 r.1.leave, .int .i64 r.1.fin], .bool r.2] ∧ m ≤ m' ∧ RSl 1 RInt m' a0 n0 c0 r.1.stops ∧ St w' m' (L)) := by
 rw [mg64] at hM
 have hk12 := hx2
 obtain ⟨a4, n5, c6, a8, n9, c10, rfl, hr7, hr11⟩ := hx2
 obtain rfl := hr7.1
 obtain rfl := hr11.1
 obtain rfl := hr16.1
 refine enter Try.func64 rfl Try.ntmps64 (Nat.le_of_ble_eq_true rfl) ?_
 refine c_seq <| c_region <| wl_box hS (v := .agg #[.slice _ _ _, .slice _ _ _, .int .i64 _, .int .i64 _, .int .i64 _]) rfl (cs := [.slice _ _ _, .slice _ _ _, .int .i64 _, .int .i64 _, .int .i64 _]) rfl ?_
 intro b18 w19 hS20
 refine wl_box hS20 (v := .slice _ _ _) rfl (cs := [.slice _ _ _]) rfl ?_
 intro b21 w22 hS23
 refine wl_alloc ty42 rfl hS23 ?_
 intro b24 w25 hS26
 refine wl_h hS26.toHeld (r_assign (v := .bool _) rfl) <| wl_nil <| c_seq <| c_seq ?_
 have hH35 := (hS26.weaken (.cons_cons _ (.cons_cons _ (.cons_cons _ (.refl _))))).toHeld
 refine c_draw (k := 6) (fun w => Held w m (.box b24 42 [.slice none 0 0, .int .i64 0, .int .i64 0] :: .box b21 35 [.slice a13 stops17.length c15] :: .box b18 26 [.slice a4 f3.stops.length c6, .slice a8 f3.minutes.length c10, .int .i64 f3.cap, .int .i64 f3.start, .int .i64 f3.back] :: L)) mixed rfl ?_
 replace hH35 := hH35.drew1
 have hS36 := hS26.drew1
 refine d_v (i := 0) rfl (by kernel_rfl) rfl (r_box ty26 (k := 0) (.there (.there .here)) rfl rfl rfl (v := .agg #[.slice _ _ _, .slice _ _ _, .int .i64 _, .int .i64 _, .int .i64 _]) rfl) hH35 ?_
 refine d_v (i := 1) rfl (by kernel_rfl) rfl (r_box ty35 (k := 0) (.there .here) rfl rfl rfl (v := .slice _ _ _) rfl) hH35 ?_
 refine d_v (i := 3) rfl (by kernel_rfl) rfl (r_fieldAddr fld26_2 (b := _) (o := _) rfl) hH35 ?_
 refine d_v (i := 4) rfl (by kernel_rfl) rfl (r_box ty3 (k := 2) (.there (.there .here)) rfl rfl rfl (v := .int .i64 _) rfl) hH35 ?_
 refine d_all (rs := [2]) (by kernel_rfl) (by simp) (fun j hj o ho => ?_)
 obtain rfl : j = 2 := by simpa using hj
 cases ho
 obtain ⟨r37, hq38, hM⟩ := bnd_ok hM
 refine wl_call ent50 (vals := [.agg #[.slice _ _ _, .slice _ _ _, .int .i64 _, .int .i64 _, .int .i64 _], .slice _ _ _]) rfl (cg50 hS36 hk12 hr16 hq38) ?_
 rintro _ w40 ⟨rfl, hS41⟩
 refine wl_nil ?_
 have hH42 := hS41.toHeld.mono (Mem.le_refl _) (List.Sublist.subset (.cons_cons _ (.cons_cons _ (.cons_cons _ (.refl _)))))
 refine ⟨hH42, ?_⟩
 refine d_v (i := 5) rfl (by kernel_rfl) rfl (r_gtr (a := _) (b := _) rfl rfl) hH42 ?_
 refine d_end (by kernel_rfl) ?_
 refine c_cond (c := _) rfl (fun h43 => ?_) (fun h43 => ?_)
 ·replace hM := bif_t h43 hM
  refine c_seq <| c_region <| wl_h hS41.toHeld (r_build ty42 st42 (ps := []) rfl rfl (cs := [.slice _ _ _, .int .i64 _, .int .i64 _]) rfl) <| wl_store_box ty42 hS41 rfl (v := .agg #[.slice _ _ _, .int .i64 _, .int .i64 _]) rfl (vs := [.slice _ _ _, .int .i64 _, .int .i64 _]) rfl rfl rfl .here (cs' := [.slice _ _ _, .int .i64 _, .int .i64 _]) rfl rfl ?_
  intro w44 hS45
  refine wl_h hS45.toHeld (r_assign (v := .bool _) rfl) <| wl_nil <| c_ret <| ret_many rfl (.cell (v := .agg #[.slice _ _ _, .int .i64 _, .int .i64 _]) rfl (ty42.run_loadVar (cs := [.slice _ _ _, .int .i64 _, .int .i64 _]) (box_at (hS45.toHeld.own .here)) rfl) (.tmp (v := .bool _) rfl .nil)) ?_
  obtain rfl := some_eq hM
  have hS46 := hS45.weaken (.cons _ (.cons _ (.cons _ (.refl _))))
  exact ⟨m, none, 0, 0, rfl, Mem.le_refl _, RSl.nil, hS46⟩
 ·replace hM := bif_f h43 hM
  refine c_skip <| c_seq <| c_region <| wl_alloc ty42 rfl hS41 ?_
  intro b47 w48 hS49
  refine wl_nil <| c_seq <| c_region <| wl_h hS49.toHeld (r_box ty26 (k := 0) (.there (.there (.there .here))) rfl rfl rfl (v := .agg #[.slice _ _ _, .slice _ _ _, .int .i64 _, .int .i64 _, .int .i64 _]) rfl) <| wl_h hS49.toHeld (r_box ty35 (k := 0) (.there (.there .here)) rfl rfl rfl (v := .slice _ _ _) rfl) ?_
  obtain ⟨r50, hq51, hM⟩ := bnd_ok hM
  refine wl_call ent24 (vals := [.agg #[.slice _ _ _, .slice _ _ _, .int .i64 _, .int .i64 _, .int .i64 _], .slice _ _ _]) rfl (cg24 hS49 hk12 hr16 hq51) ?_
  rintro _ w53 ⟨rfl, hS54⟩
  refine wl_alloc ty3 rfl hS54 ?_
  intro b55 w56 hS57
  refine wl_store_box ty3 hS57 rfl (v := .int .i64 _) rfl (vs := [.int .i64 _]) rfl rfl rfl .here (cs' := [.int .i64 _]) rfl rfl ?_
  intro w58 hS59
  refine wl_nil <| c_seq <| c_region <| wl_alloc ty35 rfl hS59 ?_
  intro b60 w61 hS62
  refine wl_nil <| c_seq <| c_region <| wl_alloc ty142 rfl hS62 ?_
  intro b63 w64 hS65
  refine wl_nil <| c_seq <| c_region <| wl_h hS65.toHeld (r_makeFunc (vs := [.pointer (some ⟨_, _, none⟩), .pointer (some ⟨_, _, none⟩), .pointer (some ⟨_, _, none⟩), .pointer (some ⟨_, _, none⟩), .pointer (some ⟨_, _, none⟩), .pointer (some ⟨_, _, none⟩)]) rfl) <| wl_store_box ty142 hS65 rfl (v := .func (.func 81) #[] #[.pointer (some ⟨_, _, none⟩), .pointer (some ⟨_, _, none⟩), .pointer (some ⟨_, _, none⟩), .pointer (some ⟨_, _, none⟩), .pointer (some ⟨_, _, none⟩), .pointer (some ⟨_, _, none⟩)]) rfl (vs := [.func (.func 81) #[] #[.pointer (some ⟨_, _, none⟩), .pointer (some ⟨_, _, none⟩), .pointer (some ⟨_, _, none⟩), .pointer (some ⟨_, _, none⟩), .pointer (some ⟨_, _, none⟩), .pointer (some ⟨_, _, none⟩)]]) rfl rfl rfl .here (cs' := [.func (.func 81) #[] #[.pointer (some ⟨_, _, none⟩), .pointer (some ⟨_, _, none⟩), .pointer (some ⟨_, _, none⟩), .pointer (some ⟨_, _, none⟩), .pointer (some ⟨_, _, none⟩), .pointer (some ⟨_, _, none⟩)]]) rfl rfl ?_
  intro w66 hS67
  refine wl_nil <| c_seq <| c_region <| wl_h hS67.toHeld (r_box ty142 (k := 0) .here rfl rfl rfl (v := .func (.func 81) #[] #[.pointer (some ⟨_, _, none⟩), .pointer (some ⟨_, _, none⟩), .pointer (some ⟨_, _, none⟩), .pointer (some ⟨_, _, none⟩), .pointer (some ⟨_, _, none⟩), .pointer (some ⟨_, _, none⟩)]) rfl) <| wl_h hS67.toHeld (r_box ty3 (k := 0) (.there (.there .here)) rfl rfl rfl (v := .int .i64 _) rfl) ?_
  have hS68 := hS67.nilRow 3 1
  have hrc70 : RCs 1 RInt m [] ([] : List Int) := RCs.nil
  have hS71 := hS68.front (.there .here)
  have hS72 := hS71.front (.there (.there (.there (.there .here))))
  have hS73 := hS72.front (.there (.there .here))
  have hS74 := hS73.front (.there (.there (.there .here)))
  obtain ⟨r75, hq76, hM⟩ := bnd_ok hM
  refine wl_callv ent81 (caps := [.pointer (some ⟨_, _, none⟩), .pointer (some ⟨_, _, none⟩), .pointer (some ⟨_, _, none⟩), .pointer (some ⟨_, _, none⟩), .pointer (some ⟨_, _, none⟩), .pointer (some ⟨_, _, none⟩)]) rfl (vals := [.int .i64 _, .int .i64 _]) rfl (cg81 hS74 hrc70 ROp.nil hr16 (.there (.there .here)) hr7 hr11 (.there (.there (.there .here))) .here hq76) ?_
  rintro _ w89 ⟨m77, a79, n80, c81, cs82, a85, n86, c87, rfl, hm78, rfl, hrc83, ho88, hS90⟩
  obtain rfl := (ROp.rsl ho88).1
  have le91 := hm78
  replace hk12 := RFleet.mono _ _ _ _ hk12 hm78
  replace hr7 := RSl.mono RStop.mono hr7 hm78
  replace hr11 := RSl.mono (RS.mono RInt.mono) hr11 hm78
  replace hr16 := RSl.mono RInt.mono hr16 hm78
  replace hrc70 := RCs.mono RInt.mono hrc70 hm78
  refine wl_nil <| c_seq ?_
  have hH97 := (hS90.weaken (.cons_cons _ (.cons_cons _ (.cons_cons _ (.cons_cons _ (.cons_cons _ (.cons _ (.cons_cons _ (.cons_cons _ (.refl _)))))))))).toHeld
  refine c_draw (k := 6) (fun w => Held w m77 (.box b60 35 [.slice a79 r75.1.length c81] :: .row (.slice a79 r75.1.length c81) 3 1 cs82 :: .box b47 42 [.slice a85 ((r75.2.1.getD []).length) c87, .int .i64 r75.2.2.1, .int .i64 r75.2.2.2] :: .box b63 142 [.func (.func 81) #[] #[.pointer (some ⟨b60, 0, none⟩), .pointer (some ⟨b21, 0, none⟩), .pointer (some ⟨b18, 0, none⟩), .pointer (some ⟨b47, 0, none⟩), .pointer (some ⟨b55, 0, none⟩), .pointer (some ⟨b63, 0, none⟩)]] :: .box b55 3 [.int .i64 r50] :: .box b21 35 [.slice a13 stops17.length c15] :: .box b18 26 [.slice a4 f3.stops.length c6, .slice a8 f3.minutes.length c10, .int .i64 f3.cap, .int .i64 f3.start, .int .i64 f3.back] :: L)) mixed rfl ?_
  replace hH97 := hH97.drew1
  have hS98 := hS90.drew1
  refine d_v (i := 0) rfl (by kernel_rfl) rfl (r_box ty42 (k := 0) (.there (.there .here)) rfl rfl rfl (v := .agg #[.slice _ _ _, .int .i64 _, .int .i64 _]) rfl) hH97 ?_
  refine d_v (i := 1) rfl (by kernel_rfl) rfl (r_fieldAddr fld42_0 (b := _) (o := _) rfl) hH97 ?_
  refine d_v (i := 2) rfl (by kernel_rfl) rfl (r_box ty35 (k := 0) (.there (.there .here)) rfl rfl rfl (v := .slice _ _ _) rfl) hH97 ?_
  refine d_v (i := 3) rfl (by kernel_rfl) rfl (r_nil_neqO Try.underlying35 rfl rfl (ROp.isSome ho88)) hH97 ?_
  refine d_all (rs := [4]) (by kernel_rfl) (by simp) (fun j hj o ho => ?_)
  obtain rfl : j = 4 := by simpa using hj
  cases ho
  refine wl_store_box ty42 hS98 rfl (v := .agg #[.slice _ _ _, .int .i64 _, .int .i64 _]) rfl (vs := [.slice _ _ _, .int .i64 _, .int .i64 _]) rfl rfl rfl (.there (.there (.there (.there (.there .here))))) (cs' := [.slice _ _ _, .int .i64 _, .int .i64 _]) rfl rfl ?_
  intro w99 hS100
  refine wl_nil ?_
  have hH101 := hS100.toHeld.mono (Mem.le_refl _) (List.Sublist.subset (.cons_cons _ (.cons_cons _ (.cons_cons _ (.cons_cons _ (.cons_cons _ (.cons _ (.cons_cons _ (.cons_cons _ (.refl _))))))))))
  refine ⟨hH101, ?_⟩
  refine d_v (i := 5) rfl (by kernel_rfl) rfl (r_assign (v := .bool _) rfl) hH101 ?_
  refine d_end (by kernel_rfl) ?_
  refine c_ret <| ret_many rfl (.cell (v := .agg #[.slice _ _ _, .int .i64 _, .int .i64 _]) rfl (ty42.run_loadVar (cs := [.slice _ _ _, .int .i64 _, .int .i64 _]) (box_at (hS100.toHeld.own (.there (.there (.there (.there (.there .here))))))) rfl) (.tmp (v := .bool _) rfl .nil)) ?_
  obtain rfl := some_eq hM
  have hS102 := hS100.weaken (.cons _ (.cons _ (.cons _ (.cons _ (.cons _ (.cons _ (.cons _ (.cons _ (.refl _)))))))))
  exact ⟨m77, a85, (r75.2.1.getD []).length, c87, rfl, le91, (ROp.rsl ho88), hS102⟩

theorem cg65 {m : Mem} {L : List Atom} {w : World} {set1 : Int} (hS : St w m L)  {fuel : Nat} {r : (List Int)} (hM : mg65 fuel set1 = some r) : Calls P0 65 [.int .i64 set1].toArray w (Ret fun v w' => ∃ (a0 : Option Addr) (n0 : Nat) (c0 : Nat) (cs0 : List Value), v = .slice a0 n0 c0 ∧ n0 = r.length ∧ RCs 1 RInt m cs0 r ∧ St w' m (.row (.slice a0 n0 c0) 3 1 cs0 :: L)) := by
 rw [mg65] at hM
 refine enter Try.func65 rfl Try.ntmps65 (Nat.le_of_ble_eq_true rfl) ?_
 refine c_seq <| c_region <| wl_h hS.toHeld (r_assign (v := .slice _ _ _) rfl) <| wl_nil <| c_seq <| c_region <| wl_h hS.toHeld (r_assign (v := .slice _ _ _) rfl) ?_
 refine wl_nil <| c_seq <| c_seq <| c_region <| wl_h hS.toHeld (r_assign (v := .int .i64 _) rfl) ?_
 refine wl_nil <| c_block ?_
 have hS82 := hS.nilRow 3 1
 have hrc83 : RCs 1 RInt m [] ([] : List Int) := RCs.nil
 refine c_loop (fun k f w => ∃ (i84 : Int) (l85 : List Int) (a86 : Option Addr) (n87 : Nat) (c88 : Nat) (cs89 : List Value), mg65_l0 fuel set1 k i84 l85 = some r ∧ n87 = l85.length ∧ RCs 1 RInt m cs89 l85 ∧ St w m (.row (.slice a86 n87 c88) 3 1 cs89 :: L) ∧ f 0 = .int .i64 set1 ∧ f 3 = .slice a86 n87 c88 ∧ f 4 = .int .i64 i84) fuel ⟨0, ([] : List Int), none, 0, 0, [], hM, row_n (hS82.toHeld.own .here) hrc83 (by decide), hrc83, hS82, rfl, rfl, rfl⟩ ?_
 rintro k_0 f92 w93 ⟨i84, l85, a86, n87, c88, cs89, hM, hn90, hrc91, hS95, e96, e97, e98⟩
 subst hn90
 refine c_know (t := 0) e96 <| c_know (t := 3) e97 <| c_know (t := 4) e98 ?_
 clear e96 e97 e98
 rcases k_0 with _ | k_0
 · exact none_ne hM
 rw [mg65_l0] at hM
 refine c_seq <| c_seq <| c_region <| wl_h hS95.toHeld (r_move (v := .int .i64 _) rfl) <| wl_h hS95.toHeld (r_move (v := .int .i64 _) rfl) ?_
 obtain ⟨hc99, hM⟩ := chk_ok hM
 refine wl_h hS95.toHeld (r_shr (a := _) (b := _) rfl rfl hc99) <| wl_h hS95.toHeld (r_gtr (a := _) (b := _) rfl rfl) <| wl_nil <| c_cond (c := _) rfl (fun h100 => ?_) (fun h100 => ?_)
 ·replace hM := bif_t h100 hM
  refine c_skip <| c_seq <| c_block <| c_seq <| c_region <| wl_h hS95.toHeld (r_move (v := .int .i64 _) rfl) ?_
  refine wl_h hS95.toHeld (r_move (v := .int .i64 _) rfl) ?_
  obtain ⟨hc101, hM⟩ := chk_ok hM
  refine wl_h hS95.toHeld (r_shr (a := _) (b := _) rfl rfl hc101) <| wl_h hS95.toHeld (r_and (a := _) (b := _) rfl rfl) <| wl_h hS95.toHeld (r_eql (a := _) (b := _) rfl rfl) <| wl_nil <| c_cond (c := _) rfl (fun h102 => ?_) (fun h102 => ?_)
  ·replace hM := bif_t h102 hM
   refine c_region <| wl_h hS95.toHeld (r_move (v := .slice _ _ _) rfl) <| wl_h hS95.toHeld (r_move (v := .int .i64 _) rfl) <| wl_buildSlice Try.underlying35 ty3 rfl (by decide) (by decide) hS95 (ps := [(0, [.int .i64 _])]) rfl rfl (cs := [.int .i64 _]) rfl rfl (by decide) ?_
   intro b104 w105 hS106
   have hrc107 : RCs 1 RInt m [.int .i64 i84] ([i84] : List Int) := (RCs.cons (d := [.int .i64 i84]) rfl rfl RCs.nil)
   obtain ⟨hc108, hM⟩ := chk_ok hM
   refine wl_append_src Try.underlying35 ty3 rfl (by decide) hS106 (a := _) (nn := _) (c := _) rfl (a2 := _) (k2 := _) (c2 := _) rfl (.there .here) (row_src (hS106.toHeld.own .here) (RCs.allOne RInt.one (by decide) hrc107)) (lim_b hc108 rfl) (lim_a hc108) ?_
   intro a109 c110 w111 hS112
   have hrc114 := RCs.append hrc91 hrc107
   generalize cs89 ++ [.int .i64 i84] = cs115 at hS112 hrc114
   have hS116 := hS112.weaken (.cons_cons _ (.cons _ (.refl _)))
   refine wl_h hS116.toHeld (r_assign (v := .slice _ _ _) rfl) <| wl_nil <| c_nil <| q_norm <| c_region <| wl_h hS116.toHeld (r_move (v := .int .i64 _) rfl) ?_
   obtain ⟨hc117, hM⟩ := chk_ok hM
   refine wl_h hS116.toHeld (r_add (a := _) (b := _) rfl rfl (ok_lo hc117) (ok_hi hc117)) <| wl_h hS116.toHeld (r_assign (v := .int .i64 _) rfl) <| wl_nil <| c_nil <| q_loop ?_
   exact ⟨k_0, Nat.lt_succ_self _, i84 + 1, (l85 ++ [i84]), a109, (l85.length + 1), c110, cs115, hM, row_n (hS116.toHeld.own .here) hrc114 (by decide), hrc114, hS116, rfl, rfl, rfl⟩
  ·replace hM := bif_f h102 hM
   refine c_skip <| c_nil <| q_norm <| c_region <| wl_h hS95.toHeld (r_move (v := .int .i64 _) rfl) ?_
   obtain ⟨hc118, hM⟩ := chk_ok hM
   refine wl_h hS95.toHeld (r_add (a := _) (b := _) rfl rfl (ok_lo hc118) (ok_hi hc118)) <| wl_h hS95.toHeld (r_assign (v := .int .i64 _) rfl) <| wl_nil <| c_nil <| q_loop ?_
   exact ⟨k_0, Nat.lt_succ_self _, i84 + 1, l85, a86, l85.length, c88, cs89, hM, row_n (hS95.toHeld.own .here) hrc91 (by decide), hrc91, hS95, rfl, rfl, rfl⟩
 ·replace hM := bif_f h100 hM
  refine c_exit <| q_loopx <| q_hit <| c_seq <| c_region <| wl_h hS95.toHeld (r_move (v := .slice _ _ _) rfl) ?_
  refine wl_h hS95.toHeld (r_assign (v := .slice _ _ _) rfl) <| wl_nil <| c_ret <| ret_tmp (t := 2) rfl (v := .slice _ _ _) rfl ?_
  obtain rfl := some_eq hM
  exact ⟨a86, l85.length, c88, cs89, rfl, row_n (hS95.toHeld.own .here) hrc91 (by decide), hrc91, hS95⟩

theorem cg42 {m : Mem} {L : List Atom} {w : World} {cs1 : List Value} {f3 : Fleet} (hS : St w m L) (hx2 : RFleet m cs1 f3) {fuel : Nat} {r : (List Tour)} (hM : mg42 fuel f3 = some r) : Calls P0 42 [.agg cs1.toArray].toArray w (Ret fun v w' => ∃ (m' : Mem) (a0 : Option Addr) (n0 : Nat) (c0 : Nat) (cs0 : List Value), v = .slice a0 n0 c0 ∧ m ≤ m' ∧ n0 = r.length ∧ RCs 3 RTour m' cs0 r ∧ St w' m' (.row (.slice a0 n0 c0) 42 3 cs0 :: L)) := by
 rw [mg42] at hM
 have hk12 := hx2
 obtain ⟨a4, n5, c6, a8, n9, c10, rfl, hr7, hr11⟩ := hx2
 obtain rfl := hr7.1
 obtain rfl := hr11.1
 refine enter Try.func42 rfl Try.ntmps42 (Nat.le_of_ble_eq_true rfl) ?_
 refine c_seq <| c_region <| wl_box hS (v := .agg #[.slice _ _ _, .slice _ _ _, .int .i64 _, .int .i64 _, .int .i64 _]) rfl (cs := [.slice _ _ _, .slice _ _ _, .int .i64 _, .int .i64 _, .int .i64 _]) rfl ?_
 intro b13 w14 hS15
 refine wl_h hS15.toHeld (r_assign (v := .slice _ _ _) rfl) <| wl_nil <| c_seq <| c_region <| wl_h hS15.toHeld (r_fieldAddr fld26_0 (b := _) (o := _) rfl) ?_
 refine wl_h hS15.toHeld (r_box ty23 (k := 0) .here rfl rfl rfl (v := .slice _ _ _) rfl) <| wl_h hS15.toHeld (r_len Try.underlying23 (a := _) (n := _) (c := _) rfl) ?_
 obtain ⟨hc16, hM⟩ := chk_ok hM
 refine wl_h hS15.toHeld (r_shl (a := _) (b := _) rfl rfl hc16) ?_
 obtain ⟨hc19, hM⟩ := chk_ok hM
 refine wl_makeSlice Try.underlying89 ty42 rfl (by decide) hS15 (l := _) (c := _) rfl rfl (mk_0 hc19) (mk_1 hc19) (mk_2 hc19 (by decide)) (mk_3 hc19) ?_
 intro b17 w18 hS20
 have hrc22 : RCs 3 RTour m (reps [.slice none 0 0, .int .i64 0, .int .i64 0] (ishl 1 ((f3.stops.length : Nat) : Int)).toNat) ((List.replicate (ishl 1 ((f3.stops.length : Nat) : Int)).toNat (⟨[], 0, 0⟩ : Tour) : List Tour) : List Tour) := RCs.reps rfl ⟨_, _, _, rfl, RSl.nil⟩ _
 refine wl_h hS20.toHeld (r_assign (v := .slice _ _ _) rfl) <| wl_nil <| c_seq <| c_seq <| c_region <| wl_h hS20.toHeld (r_move (v := .slice _ _ _) rfl) ?_
 refine wl_h hS20.toHeld (r_len Try.underlying89 (a := _) (n := _) (c := _) rfl) <| wl_h hS20.toHeld (r_move (v := .int .i64 _) rfl) <| wl_nil <| c_block <| c_loop (fun k f w => ∃ (x250 : Int) (l251 : List Tour) (m247 : Mem) (a252 : Option Addr) (n253 : Nat) (c254 : Nat) (cs255 : List Value), mg42_l0 fuel f3 k x250 l251 = some r ∧ m ≤ m247 ∧ n253 = l251.length ∧ RCs 3 RTour m247 cs255 l251 ∧ St w m247 (.row (.slice a252 n253 c254) 42 3 cs255 :: .box b13 26 [.slice a4 f3.stops.length c6, .slice a8 f3.minutes.length c10, .int .i64 f3.cap, .int .i64 f3.start, .int .i64 f3.back] :: L) ∧ f 1 = .pointer (some ⟨b13, 0, none⟩) ∧ f 3 = .slice a252 n253 c254 ∧ f 11 = .int .i64 (((ishl 1 ((f3.stops.length : Nat) : Int)).toNat : Nat) : Int) ∧ f 12 = .int .i64 x250) fuel ⟨0, (List.replicate (ishl 1 ((f3.stops.length : Nat) : Int)).toNat (⟨[], 0, 0⟩ : Tour) : List Tour), m, (some ⟨b17, 0, none⟩), (ishl 1 ((f3.stops.length : Nat) : Int)).toNat, (ishl 1 ((f3.stops.length : Nat) : Int)).toNat, reps [.slice none 0 0, .int .i64 0, .int .i64 0] (ishl 1 ((f3.stops.length : Nat) : Int)).toNat, hM, Mem.le_refl _, row_n (hS20.toHeld.own .here) hrc22 (by decide), hrc22, hS20, rfl, rfl, rfl, rfl⟩ ?_
 rintro k_0 f258 w259 ⟨x250, l251, m247, a252, n253, c254, cs255, hM, hm248, hn256, hrc257, hS261, e262, e263, e264, e265⟩
 replace hk12 := RFleet.mono _ _ _ _ hk12 hm248
 replace hr7 := RSl.mono RStop.mono hr7 hm248
 replace hr11 := RSl.mono (RS.mono RInt.mono) hr11 hm248
 replace hrc22 := RCs.mono RTour.mono hrc22 hm248
 have le249 := hm248
 subst hn256
 refine c_know (t := 1) e262 <| c_know (t := 3) e263 <| c_know (t := 11) e264 <| c_know (t := 12) e265 ?_
 clear e262 e263 e264 e265
 rcases k_0 with _ | k_0
 · exact none_ne hM
 rw [mg42_l0] at hM
 refine c_seq <| c_region <| wl_h hS261.toHeld (r_lss (a := _) (b := _) rfl rfl) <| wl_nil <| c_seq <| c_cond (c := _) rfl (fun h266 => ?_) (fun h266 => ?_)
 ·replace hM := bif_t h266 hM
  refine c_skip <| c_seq <| c_block <| c_seq <| c_region <| wl_h hS261.toHeld (r_move (v := .int .i64 _) rfl) ?_
  refine wl_h hS261.toHeld (r_assign (v := .int .i64 _) rfl) <| wl_nil <| c_seq <| c_region <| wl_h hS261.toHeld (r_move (v := .int .i64 _) rfl) ?_
  refine wl_h hS261.toHeld (r_gtr (a := _) (b := _) rfl rfl) <| wl_nil <| c_cond (c := _) rfl (fun h267 => ?_) (fun h267 => ?_)
  ·replace hM := bif_t h267 hM
   have hH320 := (hS261.weaken (.cons _ (.cons_cons _ (.refl _)))).toHeld
   refine c_draw (k := 11) (fun w => Held w m247 (.box b13 26 [.slice a4 f3.stops.length c6, .slice a8 f3.minutes.length c10, .int .i64 f3.cap, .int .i64 f3.start, .int .i64 f3.back] :: L)) mixed rfl ?_
   replace hH320 := hH320.drew1
   have hS321 := hS261.drew1
   refine d_v (i := 0) rfl (by kernel_rfl) rfl (r_move (v := .slice _ _ _) rfl) hH320 ?_
   refine d_v (i := 1) rfl (by kernel_rfl) rfl (r_move (v := .int .i64 _) rfl) hH320 ?_
   refine d_v (i := 2) rfl (by kernel_rfl) rfl (r_box ty26 (k := 0) .here rfl rfl rfl (v := .agg #[.slice _ _ _, .slice _ _ _, .int .i64 _, .int .i64 _, .int .i64 _]) rfl) hH320 ?_
   refine d_v (i := 3) rfl (by kernel_rfl) rfl (r_move (v := .int .i64 _) rfl) hH320 ?_
   refine d_all (rs := [4]) (by kernel_rfl) (by simp) (fun j hj o ho => ?_)
   obtain rfl : j = 4 := by simpa using hj
   cases ho
   obtain ⟨r322, hq323, hM⟩ := bnd_ok hM
   refine wl_call ent65 (vals := [.int .i64 _]) rfl (cg65 hS321 hq323) ?_
   rintro _ w331 ⟨a325, n326, c327, cs328, rfl, rfl, hrc329, hS332⟩
   refine wl_nil ?_
   have hH333 := hS332.toHeld.mono (Mem.le_refl _) (List.Sublist.subset (.cons _ (.cons _ (.cons_cons _ (.refl _)))))
   refine ⟨hH333, ?_⟩
   refine d_all (rs := [5]) (by kernel_rfl) (by simp) (fun j hj o ho => ?_)
   obtain rfl : j = 5 := by simpa using hj
   cases ho
   obtain ⟨m334, hm335, hS336, hr337⟩ := hS332.freezeR .here hrc329 RInt.mono (by decide)
   have le339 := Mem.le_trans le249 hm335
   have le340 := hm335
   replace hk12 := RFleet.mono _ _ _ _ hk12 hm335
   replace hr7 := RSl.mono RStop.mono hr7 hm335
   replace hr11 := RSl.mono (RS.mono RInt.mono) hr11 hm335
   replace hrc22 := RCs.mono RTour.mono hrc22 hm335
   replace hrc257 := RCs.mono RTour.mono hrc257 hm335
   replace hrc329 := RCs.mono RInt.mono hrc329 hm335
   obtain ⟨r341, hq342, hM⟩ := bnd_ok hM
   refine wl_call ent64 (vals := [.agg #[.slice _ _ _, .slice _ _ _, .int .i64 _, .int .i64 _, .int .i64 _], .slice _ _ _]) rfl (cg64 hS336 hk12 hr337 hq342) ?_
   rintro _ w349 ⟨m343, a345, n346, c347, rfl, hm344, hr348, hS350⟩
   obtain rfl := hr348.1
   have le351 := Mem.le_trans le339 hm344
   have le352 := Mem.le_trans le340 hm344
   replace hk12 := RFleet.mono _ _ _ _ hk12 hm344
   replace hr7 := RSl.mono RStop.mono hr7 hm344
   replace hr11 := RSl.mono (RS.mono RInt.mono) hr11 hm344
   replace hrc22 := RCs.mono RTour.mono hrc22 hm344
   replace hrc257 := RCs.mono RTour.mono hrc257 hm344
   replace hrc329 := RCs.mono RInt.mono hrc329 hm344
   replace hr337 := RSl.mono RInt.mono hr337 hm344
   refine wl_nil ?_
   have hH353 := hS350.toHeld.mono le352 (List.Sublist.subset (.cons _ (.cons_cons _ (.refl _))))
   refine ⟨hH353, ?_⟩
   refine d_v (i := 6) rfl (by kernel_rfl) rfl (r_move (v := .tuple #[.agg #[.slice _ _ _, .int .i64 _, .int .i64 _], .bool _]) rfl) hH353 ?_
   refine d_v (i := 7) rfl (by kernel_rfl) rfl (r_extract (vs := [.agg #[.slice _ _ _, .int .i64 _, .int .i64 _], .bool _]) rfl (v := .agg #[.slice _ _ _, .int .i64 _, .int .i64 _]) rfl) hH353 ?_
   refine d_v (i := 8) rfl (by kernel_rfl) rfl (r_extract (vs := [.agg #[.slice _ _ _, .int .i64 _, .int .i64 _], .bool _]) rfl (v := .bool _) rfl) hH353 ?_
   obtain ⟨x354, hx355, h356, h357, hM⟩ := getK_ok hM
   obtain ⟨b358, rfl⟩ := row_some (hS350.toHeld.own .here) hrc257 (by decide) h356 h357
   obtain ⟨es359, hes360, hR361⟩ := row_read hrc257 hx355
   have hk366 := hR361
   obtain ⟨a362, n363, c364, rfl, hr365⟩ := hR361
   obtain rfl := hr365.1
   refine d_v (i := 9) rfl (by kernel_rfl) rfl (r_indexAddr Try.underlying89 ty42 (b := _) (o := _) (n := _) (c := _) (i := x250) rfl rfl h356 (row_lt (hS350.toHeld.own .here) hrc257 (by decide) h357)) hH353 ?_
   refine d_all (rs := [10]) (by kernel_rfl) (by simp) (fun j hj o ho => ?_)
   obtain rfl : j = 10 := by simpa using hj
   cases ho
   refine wl_store_row ty42 hS350 rfl (v := .agg #[.slice _ _ _, .int .i64 _, .int .i64 _]) rfl (vs := [.slice _ _ _, .int .i64 _, .int .i64 _]) rfl rfl rfl .here (Nat.le_trans (by simp only [Nat.zero_add]; omega) (row_room hrc257 hx355)) ?_
   intro w367 hS368
   have hrc369 := RCs.seti hrc257 hx355 (vs := [.slice a345 r341.1.stops.length c347, .int .i64 r341.1.leave, .int .i64 r341.1.fin]) (y := (⟨r341.1.stops, r341.1.leave, r341.1.fin⟩ : Tour)) rfl ⟨_, _, _, rfl, hr348⟩
   generalize spl cs255 (0 + x250.toNat * 3) [.slice a345 r341.1.stops.length c347, .int .i64 r341.1.leave, .int .i64 r341.1.fin] = cs370 at hS368 hrc369
   refine wl_nil ?_
   have hH371 := hS368.toHeld.mono le352 (List.Sublist.subset (.cons _ (.cons_cons _ (.refl _))))
   refine ⟨hH371, ?_⟩
   refine d_end (by kernel_rfl) ?_
   refine c_nil <| q_norm <| c_region ?_
   obtain ⟨hc372, hM⟩ := chk_ok hM
   refine wl_h hS368.toHeld (r_add (a := _) (b := _) rfl rfl (ok_lo hc372) (ok_hi hc372)) <| wl_h hS368.toHeld (r_move (v := .int .i64 _) rfl) <| wl_nil <| c_nil <| q_loop ?_
   exact ⟨k_0, Nat.lt_succ_self _, x250 + 1, (l251.set x250.toNat (⟨r341.1.stops, r341.1.leave, r341.1.fin⟩ : Tour)), m343, (some ⟨b358, 0, none⟩), l251.length, c254, cs370, hM, le351, row_n (hS368.toHeld.own .here) hrc369 (by decide), hrc369, hS368, rfl, rfl, rfl, rfl⟩
  ·replace hM := bif_f h267 hM
   refine c_skip <| c_nil <| q_norm <| c_region ?_
   obtain ⟨hc373, hM⟩ := chk_ok hM
   refine wl_h hS261.toHeld (r_add (a := _) (b := _) rfl rfl (ok_lo hc373) (ok_hi hc373)) <| wl_h hS261.toHeld (r_move (v := .int .i64 _) rfl) <| wl_nil <| c_nil <| q_loop ?_
   exact ⟨k_0, Nat.lt_succ_self _, x250 + 1, l251, m247, a252, l251.length, c254, cs255, hM, le249, row_n (hS261.toHeld.own .here) hrc257 (by decide), hrc257, hS261, rfl, rfl, rfl, rfl⟩
 ·replace hM := bif_f h266 hM
  refine c_exit <| q_loopx <| q_hit <| c_seq <| c_region <| wl_h hS261.toHeld (r_move (v := .slice _ _ _) rfl) ?_
  refine wl_h hS261.toHeld (r_assign (v := .slice _ _ _) rfl) <| wl_nil <| c_ret <| ret_tmp (t := 2) rfl (v := .slice _ _ _) rfl ?_
  obtain rfl := some_eq hM
  have hS374 := hS261.weaken (.cons_cons _ (.cons _ (.refl _)))
  exact ⟨m247, a252, l251.length, c254, cs255, rfl, le249, row_n (hS374.toHeld.own .here) hrc257 (by decide), hrc257, hS374⟩

theorem cg43 {m : Mem} {L : List Atom} {w : World} {a1 : Option Addr} {n2 c3 : Nat} {t5 : List Tour} {set6 : Int} (hS : St w m L) (hr4 : RSl 3 RTour m a1 n2 c3 t5) {fuel : Nat} {r : Tour} (hM : mg43 fuel t5 set6 = some r) : Calls P0 43 [.slice a1 n2 c3, .int .i64 set6].toArray w (Ret fun v w' => ∃ (a0 : Option Addr) (n0 : Nat) (c0 : Nat), v = .agg #[.slice a0 n0 c0, .int .i64 r.leave, .int .i64 r.fin] ∧ RSl 1 RInt m a0 n0 c0 r.stops ∧ St w' m (L)) := by
 rw [mg43] at hM
 obtain rfl := hr4.1
 refine enter Try.func43 rfl Try.ntmps43 (Nat.le_of_ble_eq_true rfl) ?_
 refine c_seq <| c_region <| wl_alloc ty42 rfl hS ?_
 intro b7 w8 hS9
 refine wl_nil <| c_seq <| c_region <| wl_h hS9.toHeld (r_move (v := .slice _ _ _) rfl) <| wl_h hS9.toHeld (r_move (v := .int .i64 _) rfl) ?_
 obtain ⟨x10, hx11, h12, h13, hM⟩ := getK_ok hM
 obtain ⟨b14, o15, rfl⟩ := RSl.elem_a hr4 hx11
 obtain ⟨cs16, hI17, hR18⟩ := RSl.elem_at hr4 hx11
 have hk23 := hR18
 obtain ⟨a19, n20, c21, rfl, hr22⟩ := hR18
 obtain rfl := hr22.1
 refine wl_h hS9.toHeld (r_indexAddr Try.underlying89 ty42 (b := _) (o := _) (n := _) (c := _) (i := set6) rfl rfl h12 (RSl.lt hr4 h13)) <| wl_h hS9.toHeld (r_imm ty42 (k := 0) hI17 rfl rfl rfl (v := .agg #[.slice _ _ _, .int .i64 _, .int .i64 _]) rfl) <| wl_store_box ty42 hS9 rfl (v := .agg #[.slice _ _ _, .int .i64 _, .int .i64 _]) rfl (vs := [.slice _ _ _, .int .i64 _, .int .i64 _]) rfl rfl rfl .here (cs' := [.slice _ _ _, .int .i64 _, .int .i64 _]) rfl rfl ?_
 intro w24 hS25
 refine wl_nil <| c_ret <| ret_many rfl (.cell (v := .agg #[.slice _ _ _, .int .i64 _, .int .i64 _]) rfl (ty42.run_loadVar (cs := [.slice _ _ _, .int .i64 _, .int .i64 _]) (box_at (hS25.toHeld.own .here)) rfl) .nil) ?_
 obtain rfl := some_eq hM
 have hS26 := hS25.weaken (.cons _ (.refl _))
 exact ⟨a19, x10.stops.length, c21, rfl, hr22, hS26⟩

theorem cg44 {m : Mem} {L : List Atom} {w : World} {a1 : Option Addr} {n2 c3 : Nat} {t5 : List Plan} {set6 : Int} (hS : St w m L) (hr4 : RSl 3 RPlan m a1 n2 c3 t5) {fuel : Nat} {r : Plan} (hM : mg44 fuel t5 set6 = some r) : Calls P0 44 [.slice a1 n2 c3, .int .i64 set6].toArray w (Ret fun v w' => ∃ (a0 : Option Addr) (n0 : Nat) (c0 : Nat), v = .agg #[.bool r.ok, .slice a0 n0 c0, .int .i64 r.takes] ∧ RSl 3 RTour m a0 n0 c0 r.tours ∧ St w' m (L)) := by
 rw [mg44] at hM
 obtain rfl := hr4.1
 refine enter Try.func44 rfl Try.ntmps44 (Nat.le_of_ble_eq_true rfl) ?_
 refine c_seq <| c_region <| wl_alloc ty59 rfl hS ?_
 intro b7 w8 hS9
 refine wl_nil <| c_seq <| c_region <| wl_h hS9.toHeld (r_move (v := .slice _ _ _) rfl) <| wl_h hS9.toHeld (r_move (v := .int .i64 _) rfl) ?_
 obtain ⟨x10, hx11, h12, h13, hM⟩ := getK_ok hM
 obtain ⟨b14, o15, rfl⟩ := RSl.elem_a hr4 hx11
 obtain ⟨cs16, hI17, hR18⟩ := RSl.elem_at hr4 hx11
 have hk23 := hR18
 obtain ⟨a19, n20, c21, rfl, hr22⟩ := hR18
 obtain rfl := hr22.1
 refine wl_h hS9.toHeld (r_indexAddr Try.underlying92 ty59 (b := _) (o := _) (n := _) (c := _) (i := set6) rfl rfl h12 (RSl.lt hr4 h13)) <| wl_h hS9.toHeld (r_imm ty59 (k := 0) hI17 rfl rfl rfl (v := .agg #[.bool _, .slice _ _ _, .int .i64 _]) rfl) <| wl_store_box ty59 hS9 rfl (v := .agg #[.bool _, .slice _ _ _, .int .i64 _]) rfl (vs := [.bool _, .slice _ _ _, .int .i64 _]) rfl rfl rfl .here (cs' := [.bool _, .slice _ _ _, .int .i64 _]) rfl rfl ?_
 intro w24 hS25
 refine wl_nil <| c_ret <| ret_many rfl (.cell (v := .agg #[.bool _, .slice _ _ _, .int .i64 _]) rfl (ty59.run_loadVar (cs := [.bool _, .slice _ _ _, .int .i64 _]) (box_at (hS25.toHeld.own .here)) rfl) .nil) ?_
 obtain rfl := some_eq hM
 have hS26 := hS25.weaken (.cons _ (.refl _))
 exact ⟨a19, x10.tours.length, c21, rfl, hr22, hS26⟩

theorem cg59 {σ H : Type} {m : Mem} {M : H → Mem} {F : σ → H → Prop} {A : σ → H → List Atom} {y : σ → Int → Int → Option σ} {l : Nat} (hMm : ∀ s h, F s h → m ≤ M h) (hy : ∀ (E : List Atom) (w : World) (s : σ) (h : H) (x0 : Int) (x1 : Int) (s' : σ), F s h → St w (M h) (A s h ++ E) → y s x0 x1 = some s' → K.Yields P0 l [.int .i64 x0, .int .i64 x1] w (fun v w' => v = .bool true ∧ ∃ h', F s' h' ∧ St w' (M h') (A s' h' ++ E))) {b1 : Nat} {y3 : Int} (hb2 : ∀ s h, F s h → K.Own (A s h) (.box b1 3 [.int .i64 y3])) {w : World} {s0 : σ} {h0 : H} {E : List Atom} (hF : F s0 h0) (hS : St w (M h0) (A s0 h0 ++ E)) {fuel : Nat} {r : σ} (hM : mg59 fuel y s0 y3 = some r) : Calls P0 59 [.func (.yield l) #[] #[], .pointer (some ⟨b1, 0, none⟩)].toArray w (Ret fun v w' => v = .tuple #[] ∧ ∃ h', F r h' ∧ St w' (M h') (A r h' ++ E)) := by
 rw [mg59] at hM
 refine enter Try.func59 rfl Try.ntmps59 (Nat.le_of_ble_eq_true rfl) ?_
 refine c_seq <| c_region <| wl_h hS.toHeld (r_box ty3 (k := 0) (K.Own.left (hb2 _ _ hF)) rfl rfl rfl (v := .int .i64 _) rfl) <| wl_h hS.toHeld (r_box ty3 (k := 0) (K.Own.left (hb2 _ _ hF)) rfl rfl rfl (v := .int .i64 _) rfl) ?_
 obtain ⟨hc4, hM⟩ := chk_ok hM
 refine wl_h hS.toHeld (r_negk (a := _) rfl hc4) <| wl_h hS.toHeld (r_and (a := _) (b := _) rfl rfl) <| wl_h hS.toHeld (r_assign (v := .int .i64 _) rfl) <| wl_nil <| c_seq <| c_region <| wl_h hS.toHeld (r_box ty3 (k := 0) (K.Own.left (hb2 _ _ hF)) rfl rfl rfl (v := .int .i64 _) rfl) ?_
 refine wl_h hS.toHeld (r_move (v := .int .i64 _) rfl) <| wl_h hS.toHeld (r_xor (a := _) (b := _) rfl rfl) <| wl_h hS.toHeld (r_assign (v := .int .i64 _) rfl) <| wl_nil <| c_seq <| c_region <| wl_h hS.toHeld (r_move (v := .int .i64 _) rfl) ?_
 refine wl_h hS.toHeld (r_assign (v := .int .i64 _) rfl) <| wl_nil <| c_block <| c_loop (fun k f w => ∃ (s26 : σ) (x29 : Int) (h27 : H), mg59_l0 fuel y y3 k s26 x29 = some r ∧ F s26 h27 ∧ St w (M h27) ((A s26 h27 ++ E)) ∧ f 0 = .func (.yield l) #[] #[] ∧ f 3 = .int .i64 (iand y3 (-y3)) ∧ f 4 = .int .i64 (ixor y3 (iand y3 (-y3))) ∧ f 5 = .int .i64 x29) fuel ⟨s0, ixor y3 (iand y3 (-y3)), h0, hM, hF, hS, rfl, rfl, rfl, rfl⟩ ?_
 rintro k_0 f30 w31 ⟨s26, x29, h27, hM, hF28, hS33, e34, e35, e36, e37⟩
 refine c_know (t := 0) e34 <| c_know (t := 3) e35 <| c_know (t := 4) e36 <| c_know (t := 5) e37 ?_
 clear e34 e35 e36 e37
 rcases k_0 with _ | k_0
 · exact none_ne hM
 rw [mg59_l0] at hM
 refine c_seq <| c_block <| c_seq <| c_seq <| c_region <| wl_h hS33.toHeld (r_move (v := .func (.yield l) #[] #[]) rfl) ?_
 refine wl_h hS33.toHeld (r_move (v := .int .i64 _) rfl) <| wl_h hS33.toHeld (r_move (v := .int .i64 _) rfl) <| wl_h hS33.toHeld (r_or (a := _) (b := _) rfl rfl) <| wl_h hS33.toHeld (r_move (v := .int .i64 _) rfl) <| wl_h hS33.toHeld (r_move (v := .int .i64 _) rfl) ?_
 refine wl_h hS33.toHeld (r_xor (a := _) (b := _) rfl rfl) ?_
 obtain ⟨s38, hq39, hM⟩ := bnd_ok hM
 refine wl_yield rfl (vals := [.int .i64 _, .int .i64 _]) rfl (hy E _ _ _ _ _ _ hF28 hS33 hq39) ?_
 rintro _ w42 ⟨rfl, h40, hF41, hS43⟩
 refine wl_h hS43.toHeld (r_not (b := _) rfl) <| wl_nil <| c_false rfl <| c_skip <| c_seq <| c_region <| wl_h hS43.toHeld (r_move (v := .int .i64 _) rfl) ?_
 refine wl_h hS43.toHeld (r_eql (a := _) (b := _) rfl rfl) <| wl_nil <| c_cond (c := _) rfl (fun h44 => ?_) (fun h44 => ?_)
 ·replace hM := bif_t h44 hM
  refine c_ret <| q_retb <| q_retl <| q_retb <| ret_none rfl ?_
  obtain rfl := some_eq hM
  exact ⟨rfl, h40, hF41, hS43⟩
 ·replace hM := bif_f h44 hM
  refine c_skip <| c_nil <| q_norm <| c_region <| wl_h hS43.toHeld (r_move (v := .int .i64 _) rfl) ?_
  obtain ⟨hc45, hM⟩ := chk_ok hM
  refine wl_h hS43.toHeld (r_sub (a := _) (b := _) rfl rfl (ok_lo hc45) (ok_hi hc45)) <| wl_h hS43.toHeld (r_move (v := .int .i64 _) rfl) <| wl_h hS43.toHeld (r_and (a := _) (b := _) rfl rfl) <| wl_h hS43.toHeld (r_assign (v := .int .i64 _) rfl) <| wl_nil <| c_nil <| q_loop ?_
  exact ⟨k_0, Nat.lt_succ_self _, s38, iand (x29 - 1) (ixor y3 (iand y3 (-y3))), h40, hM, hF41, hS43, rfl, rfl, rfl, rfl⟩

theorem cg43ro_0f {m : Mem} {L : List Atom} {w : World} {a1 : Option Addr} {n2 c3 : Nat} {cs4 : List Value} {t7 : List Tour} {set8 : Int} (hS : St w m L) (hr5 : RCs 3 RTour m cs4 t7) (ho6 : K.Own L (.row (.slice a1 n2 c3) 42 3 cs4)) {fuel : Nat} {r : Tour} (hM : mg43ro_0f fuel t7 set8 = some r) : Calls P0 43 [.slice a1 n2 c3, .int .i64 set8].toArray w (Ret fun v w' => ∃ (a0 : Option Addr) (n0 : Nat) (c0 : Nat), v = .agg #[.slice a0 n0 c0, .int .i64 r.leave, .int .i64 r.fin] ∧ RSl 1 RInt m a0 n0 c0 r.stops ∧ St w' m (L)) := by
 rw [mg43ro_0f] at hM
 obtain rfl := row_n (hS.toHeld.own ho6) hr5 (by decide)
 refine enter Try.func43 rfl Try.ntmps43 (Nat.le_of_ble_eq_true rfl) ?_
 refine c_seq <| c_region <| wl_alloc ty42 rfl hS ?_
 intro b9 w10 hS11
 refine wl_nil <| c_seq <| c_region <| wl_h hS11.toHeld (r_move (v := .slice _ _ _) rfl) <| wl_h hS11.toHeld (r_move (v := .int .i64 _) rfl) ?_
 obtain ⟨x12, hx13, h14, h15, hM⟩ := getK_ok hM
 obtain ⟨b16, rfl⟩ := row_some (hS11.toHeld.own (.there ho6)) hr5 (by decide) h14 h15
 obtain ⟨es17, hes18, hR19⟩ := row_read hr5 hx13
 have hk24 := hR19
 obtain ⟨a20, n21, c22, rfl, hr23⟩ := hR19
 obtain rfl := hr23.1
 refine wl_h hS11.toHeld (r_indexAddr Try.underlying89 ty42 (b := _) (o := _) (n := _) (c := _) (i := set8) rfl rfl h14 (row_lt (hS11.toHeld.own (.there ho6)) hr5 (by decide) h15)) <| wl_h hS11.toHeld (r_row ty42 (k := 0) (i := set8.toNat) (.there ho6) rfl rfl (row_room hr5 hx13) hes18 rfl (v := .agg #[.slice _ _ _, .int .i64 _, .int .i64 _]) rfl) <| wl_store_box ty42 hS11 rfl (v := .agg #[.slice _ _ _, .int .i64 _, .int .i64 _]) rfl (vs := [.slice _ _ _, .int .i64 _, .int .i64 _]) rfl rfl rfl .here (cs' := [.slice _ _ _, .int .i64 _, .int .i64 _]) rfl rfl ?_
 intro w25 hS26
 refine wl_nil <| c_ret <| ret_many rfl (.cell (v := .agg #[.slice _ _ _, .int .i64 _, .int .i64 _]) rfl (ty42.run_loadVar (cs := [.slice _ _ _, .int .i64 _, .int .i64 _]) (box_at (hS26.toHeld.own .here)) rfl) .nil) ?_
 obtain rfl := some_eq hM
 have hS27 := hS26.weaken (.cons _ (.refl _))
 exact ⟨a20, x12.stops.length, c22, rfl, hr23, hS27⟩

theorem cg44ro_0f {m0 : Mem} {m : Mem} {L : List Atom} {w : World} {a1 : Option Addr} {n2 c3 : Nat} {cs4 : List Value} {t7 : List Plan} {set8 : Int} (hS : St w m L) (hr5 : RCs 3 (RPlanF m0) m cs4 t7) (ho6 : K.Own L (.row (.slice a1 n2 c3) 59 3 cs4)) {fuel : Nat} {r : Plan} (hM : mg44ro_0f fuel t7 set8 = some r) : Calls P0 44 [.slice a1 n2 c3, .int .i64 set8].toArray w (Ret fun v w' => ∃ (a0 : Option Addr) (n0 : Nat) (c0 : Nat), v = .agg #[.bool r.ok, .slice a0 n0 c0, .int .i64 r.takes] ∧ RSl 3 RTour m a0 n0 c0 r.tours ∧ St w' m (L)) := by
 rw [mg44ro_0f] at hM
 obtain rfl := row_n (hS.toHeld.own ho6) hr5 (by decide)
 refine enter Try.func44 rfl Try.ntmps44 (Nat.le_of_ble_eq_true rfl) ?_
 refine c_seq <| c_region <| wl_alloc ty59 rfl hS ?_
 intro b9 w10 hS11
 refine wl_nil <| c_seq <| c_region <| wl_h hS11.toHeld (r_move (v := .slice _ _ _) rfl) <| wl_h hS11.toHeld (r_move (v := .int .i64 _) rfl) ?_
 obtain ⟨x12, hx13, h14, h15, hM⟩ := getK_ok hM
 obtain ⟨b16, rfl⟩ := row_some (hS11.toHeld.own (.there ho6)) hr5 (by decide) h14 h15
 obtain ⟨es17, hes18, hR19⟩ := row_read hr5 hx13
 have hk24 := hR19
 obtain ⟨a20, n21, c22, rfl, hr23⟩ := hR19
 have hr25 := Fresh.rsl hr23
 obtain rfl := hr25.1
 refine wl_h hS11.toHeld (r_indexAddr Try.underlying92 ty59 (b := _) (o := _) (n := _) (c := _) (i := set8) rfl rfl h14 (row_lt (hS11.toHeld.own (.there ho6)) hr5 (by decide) h15)) <| wl_h hS11.toHeld (r_row ty59 (k := 0) (i := set8.toNat) (.there ho6) rfl rfl (row_room hr5 hx13) hes18 rfl (v := .agg #[.bool _, .slice _ _ _, .int .i64 _]) rfl) <| wl_store_box ty59 hS11 rfl (v := .agg #[.bool _, .slice _ _ _, .int .i64 _]) rfl (vs := [.bool _, .slice _ _ _, .int .i64 _]) rfl rfl rfl .here (cs' := [.bool _, .slice _ _ _, .int .i64 _]) rfl rfl ?_
 intro w26 hS27
 refine wl_nil <| c_ret <| ret_many rfl (.cell (v := .agg #[.bool _, .slice _ _ _, .int .i64 _]) rfl (ty59.run_loadVar (cs := [.bool _, .slice _ _ _, .int .i64 _]) (box_at (hS27.toHeld.own .here)) rfl) .nil) ?_
 obtain rfl := some_eq hM
 have hS28 := hS27.weaken (.cons _ (.refl _))
 exact ⟨a20, x12.tours.length, c22, rfl, hr25, hS28⟩

theorem cg19 {m : Mem} {L : List Atom} {w : World} {cs1 : List Value} {f3 : Fleet} (hS : St w m L) (hx2 : RFleet m cs1 f3) {fuel : Nat} {r : Plan} (hM : mg19 fuel f3 = some r) : Calls P0 19 [.agg cs1.toArray].toArray w (Ret fun v w' => ∃ (m' : Mem) (a0 : Option Addr) (n0 : Nat) (c0 : Nat) (cs0 : List Value), v = .agg #[.bool r.ok, .slice a0 n0 c0, .int .i64 r.takes] ∧ m ≤ m' ∧ n0 = r.tours.length ∧ RCs 3 RTour m' cs0 r.tours ∧ St w' m' (.row (.slice a0 n0 c0) 42 3 cs0 :: L)) := by
 rw [mg19] at hM
 have hk12 := hx2
 obtain ⟨a4, n5, c6, a8, n9, c10, rfl, hr7, hr11⟩ := hx2
 obtain rfl := hr7.1
 obtain rfl := hr11.1
 refine enter Try.func19 rfl Try.ntmps19 (Nat.le_of_ble_eq_true rfl) ?_
 refine c_seq <| c_region <| wl_box hS (v := .agg #[.slice _ _ _, .slice _ _ _, .int .i64 _, .int .i64 _, .int .i64 _]) rfl (cs := [.slice _ _ _, .slice _ _ _, .int .i64 _, .int .i64 _, .int .i64 _]) rfl ?_
 intro b13 w14 hS15
 refine wl_alloc ty59 rfl hS15 ?_
 intro b16 w17 hS18
 refine wl_nil <| c_seq <| c_region <| wl_h hS18.toHeld (r_box ty26 (k := 0) (.there .here) rfl rfl rfl (v := .agg #[.slice _ _ _, .slice _ _ _, .int .i64 _, .int .i64 _, .int .i64 _]) rfl) ?_
 obtain ⟨r19, hq20, hM⟩ := bnd_ok hM
 refine wl_call ent42 (vals := [.agg #[.slice _ _ _, .slice _ _ _, .int .i64 _, .int .i64 _, .int .i64 _]]) rfl (cg42 hS18 hk12 hq20) ?_
 rintro _ w29 ⟨m21, a23, n24, c25, cs26, rfl, hm22, rfl, hrc27, hS30⟩
 have le31 := hm22
 replace hk12 := RFleet.mono _ _ _ _ hk12 hm22
 replace hr7 := RSl.mono RStop.mono hr7 hm22
 replace hr11 := RSl.mono (RS.mono RInt.mono) hr11 hm22
 refine wl_alloc ty89 rfl hS30 ?_
 intro b32 w33 hS34
 refine wl_store_box ty89 hS34 rfl (v := .slice _ _ _) rfl (vs := [.slice _ _ _]) rfl rfl rfl .here (cs' := [.slice _ _ _]) rfl rfl ?_
 intro w35 hS36
 refine wl_nil <| c_seq <| c_region <| wl_h hS36.toHeld (r_box ty89 (k := 0) .here rfl rfl rfl (v := .slice _ _ _) rfl) <| wl_h hS36.toHeld (r_len Try.underlying89 (a := _) (n := _) (c := _) rfl) ?_
 obtain ⟨hc39, hM⟩ := chk_ok hM
 refine wl_makeSlice Try.underlying92 ty59 rfl (by decide) hS36 (l := _) (c := _) rfl rfl (mk_0 hc39) (mk_1 hc39) (mk_2 hc39 (by decide)) (mk_3 hc39) ?_
 intro b37 w38 hS40
 have hrc42 : RCs 3 (RPlanF m) m21 (reps [.bool false, .slice none 0 0, .int .i64 0] ((r19.length : Nat) : Int).toNat) ((List.replicate ((r19.length : Nat) : Int).toNat (⟨false, [], 0⟩ : Plan) : List Plan) : List Plan) := RCs.reps rfl ⟨_, _, _, rfl, Fresh.nil⟩ _
 refine wl_alloc ty92 rfl hS40 ?_
 intro b43 w44 hS45
 refine wl_store_box ty92 hS45 rfl (v := .slice _ _ _) rfl (vs := [.slice _ _ _]) rfl rfl rfl .here (cs' := [.slice _ _ _]) rfl rfl ?_
 intro w46 hS47
 refine wl_nil <| c_seq <| c_region <| wl_h hS47.toHeld (r_box ty92 (k := 0) .here rfl rfl rfl (v := .slice _ _ _) rfl) ?_
 obtain ⟨x48, hx49, h50, h51, hM⟩ := getK_ok hM
 obtain ⟨es52, hes53, hR54⟩ := row_read hrc42 hx49
 have hk59 := hR54
 obtain ⟨a55, n56, c57, rfl, hr58⟩ := hR54
 have hr60 := Fresh.rsl hr58
 obtain rfl := hr60.1
 refine wl_h hS47.toHeld (r_indexAddr Try.underlying92 ty59 (b := _) (o := _) (n := _) (c := _) (i := 0) rfl rfl h50 (row_lt (hS47.toHeld.own (.there .here)) hrc42 (by decide) h51)) <| wl_h hS47.toHeld (r_fieldAddr fld59_0 (b := _) (o := _) rfl) <| wl_store_row ty4 hS47 rfl (v := .bool _) rfl (vs := [.bool _]) rfl rfl rfl (.there .here) (Nat.le_trans (by simp only [Nat.zero_add]; omega) (row_room hrc42 hx49)) ?_
 intro w61 hS62
 have hrc63 := RCs.setp hrc42 hx49 (k := 0) (vs := [.bool true]) hes53 (Nat.le_of_ble_eq_true rfl) rfl (y := (⟨true, x48.tours, x48.takes⟩ : Plan)) ⟨_, _, _, rfl, hr58⟩
 generalize spl (reps [.bool false, .slice none 0 0, .int .i64 0] ((r19.length : Nat) : Int).toNat) (0 + (0 : Int).toNat * 3 + 0) [.bool true] = cs64 at hS62 hrc63
 refine wl_nil <| c_seq <| c_seq <| c_region <| wl_alloc ty3 rfl hS62 ?_
 intro b65 w66 hS67
 refine wl_store_box ty3 hS67 rfl (v := .int .i64 _) rfl (vs := [.int .i64 _]) rfl rfl rfl .here (cs' := [.int .i64 _]) rfl rfl ?_
 intro w68 hS69
 refine wl_nil <| c_block ?_
 have hS70 := hS69.weaken (.cons_cons _ (.cons_cons _ (.cons_cons _ (.cons_cons _ (.cons_cons _ (.cons_cons _ (.cons _ (.refl _))))))))
 refine c_loopN (fun k n f w => ∃ (ds4584 : List Nat) (y4576 : Int) (l4577 : List Plan) (m4571 : Mem) (b4575 : Nat) (a4578 : Option Addr) (n4579 : Nat) (c4580 : Nat) (cs4581 : List Value), n = ⟨83, ds4584⟩ ∧ mg19_l0 fuel r19 k y4576 l4577 = some r ∧ m21 ≤ m4571 ∧ n4579 = l4577.length ∧ RCs 3 (RPlanF m) m4571 cs4581 l4577 ∧ St w m4571 (.box b4575 3 [.int .i64 y4576] :: .box b43 92 [.slice a4578 n4579 c4580] :: .row (.slice a4578 n4579 c4580) 59 3 cs4581 :: .box b32 89 [.slice a23 r19.length c25] :: .row (.slice a23 r19.length c25) 42 3 cs26 :: .box b16 59 [.bool false, .slice none 0 0, .int .i64 0] :: (dfrs ds4584 ++ L)) ∧ f 2 = .pointer (some ⟨b16, 0, none⟩) ∧ f 3 = .pointer (some ⟨b32, 0, none⟩) ∧ f 4 = .pointer (some ⟨b43, 0, none⟩) ∧ f 5 = .pointer (some ⟨b4575, 0, none⟩)) fuel ⟨[], 1, ((List.replicate ((r19.length : Nat) : Int).toNat (⟨false, [], 0⟩ : Plan) : List Plan).set (0 : Int).toNat (⟨true, x48.tours, x48.takes⟩ : Plan)), m21, b65, (some ⟨b37, 0, none⟩), ((r19.length : Nat) : Int).toNat, ((r19.length : Nat) : Int).toNat, cs64, rfl, hM, Mem.le_refl _, row_n (hS70.toHeld.own (.there (.there .here))) hrc63 (by decide), hrc63, hS70, rfl, rfl, rfl, rfl⟩ ?_
 rintro k_0 nf4593 f4585 w4586 ⟨ds4584, y4576, l4577, m4571, b4575, a4578, n4579, c4580, cs4581, rfl, hM, hm4572, hn4582, hrc4583, hS4588, e4589, e4590, e4591, e4592⟩
 replace hk12 := RFleet.mono _ _ _ _ hk12 hm4572
 replace hr7 := RSl.mono RStop.mono hr7 hm4572
 replace hr11 := RSl.mono (RS.mono RInt.mono) hr11 hm4572
 replace hrc27 := RCs.mono RTour.mono hrc27 hm4572
 replace hrc42 := RCs.mono RPlanF.mono hrc42 hm4572
 replace hk59 := RPlanF.mono _ _ _ _ hk59 hm4572
 replace hr58 := Fresh.mono RTour.mono hr58 hm4572
 replace hr60 := RSl.mono RTour.mono hr60 hm4572
 replace hrc63 := RCs.mono RPlanF.mono hrc63 hm4572
 have le4573 := Mem.le_trans le31 hm4572
 have le4574 := hm4572
 subst hn4582
 refine c_know (t := 2) e4589 <| c_know (t := 3) e4590 <| c_know (t := 4) e4591 <| c_know (t := 5) e4592 ?_
 clear e4589 e4590 e4591 e4592
 rcases k_0 with _ | k_0
 · exact none_ne hM
 rw [mg19_l0] at hM
 refine c_seq <| c_seq <| c_region <| wl_h hS4588.toHeld (r_box ty3 (k := 0) .here rfl rfl rfl (v := .int .i64 _) rfl) <| wl_h hS4588.toHeld (r_box ty92 (k := 0) (.there .here) rfl rfl rfl (v := .slice _ _ _) rfl) ?_
 refine wl_h hS4588.toHeld (r_len Try.underlying92 (a := _) (n := _) (c := _) rfl) <| wl_h hS4588.toHeld (r_lss (a := _) (b := _) rfl rfl) <| wl_nil <| c_cond (c := _) rfl (fun h4594 => ?_) (fun h4594 => ?_)
 ·replace hM := bif_t h4594 hM
  refine c_skip <| c_seq <| c_block <| c_seq <| c_region <| wl_h hS4588.toHeld (r_box ty3 (k := 0) .here rfl rfl rfl (v := .int .i64 _) rfl) ?_
  refine wl_call ent35 (vals := [.int .i64 _]) rfl (cg35 hS4588 ) ?_
  rintro _ w4596 ⟨b4595, rfl, hS4597⟩
  refine wl_nil <| c_block <| c_rangeFunc ent59 (caps := [.pointer (some ⟨_, _, none⟩)]) rfl hS4597 (fun fn6097 D4598 l4598 w6098 q4598 hq6099 hS6100 => ?_)
  obtain ⟨r6101, hq6102, hM⟩ := bnd_ok hM
  refine Calls.ret_mono (cg59 (σ := (List Plan)) (H := Mem × (Option Addr) × Nat × Nat × (List Value)) (m := m4571) (M := fun h => h.1) (F := fun s h => m4571 ≤ h.1 ∧ h.2.2.1 = s.length ∧ RCs 3 (RPlanF m) h.1 h.2.2.2.2 s) (A := fun s h => .raw l4598 (.loop q4598) :: .raw D4598 (.deferred (some [])) :: .box b4595 3 [.int .i64 y4576] :: .box b4575 3 [.int .i64 y4576] :: .box b43 92 [.slice h.2.1 h.2.2.1 h.2.2.2.1] :: .row (.slice h.2.1 h.2.2.1 h.2.2.2.1) 59 3 h.2.2.2.2 :: .box b32 89 [.slice a23 r19.length c25] :: .row (.slice a23 r19.length c25) 42 3 cs26 :: .box b16 59 [.bool false, .slice none 0 0, .int .i64 0] :: (dfrs ds4584 ++ L)) (y := (fun s x4598_0 x4598_1 => mg19_r4598 fuel r19 y4576 s x4598_0 x4598_1)) (l := l4598) (fun s h hF => hF.1) ?_ (fun _ _ _ => (.there (.there .here))) (s0 := l4577) (h0 := ⟨m4571, a4578, l4577.length, c4580, cs4581⟩) (E := []) ⟨Mem.le_refl _, row_n (hS4597.toHeld.own (.there (.there (.there .here)))) hrc4583 (by decide), hrc4583⟩ (by simpa using hS6100) hq6102) ?_
  ·rintro E w6106 l6090 ⟨m6085, a6091, n6092, c6093, cs6094⟩ x6104 x6105 s' ⟨hm6086, hn6095, hrc6096⟩ hS6103 hM
   replace hk12 := RFleet.mono _ _ _ _ hk12 hm6086
   replace hr7 := RSl.mono RStop.mono hr7 hm6086
   replace hr11 := RSl.mono (RS.mono RInt.mono) hr11 hm6086
   replace hrc27 := RCs.mono RTour.mono hrc27 hm6086
   replace hrc42 := RCs.mono RPlanF.mono hrc42 hm6086
   replace hk59 := RPlanF.mono _ _ _ _ hk59 hm6086
   replace hr58 := Fresh.mono RTour.mono hr58 hm6086
   replace hr60 := RSl.mono RTour.mono hr60 hm6086
   replace hrc63 := RCs.mono RPlanF.mono hrc63 hm6086
   replace hrc4583 := RCs.mono RPlanF.mono hrc4583 hm6086
   have le6087 := Mem.le_trans le4573 hm6086
   have le6088 := Mem.le_trans le4574 hm6086
   have le6089 := hm6086
   subst hn6095
   simp only [List.cons_append] at hS6103
   change mg19_r4598 fuel r19 y4576 l6090 x6104 x6105 = some s' at hM
   rw [mg19_r4598] at hM
   refine yields_of (ps := [27, 28]) hS6103 (congrArg Loop.state hq6099) (congrArg Loop.pending hq6099) (congrArg Loop.tmps hq6099) (congrArg Loop.params hq6099) (congrArg Loop.assign hq6099) (congrArg Loop.body hq6099) rfl ?_
   refine c_seq <| c_region <| wl_h hS6103.toHeld (r_assign (v := .int .i64 _) rfl) <| wl_nil <| c_region <| wl_h hS6103.toHeld (r_assign (v := .int .i64 _) rfl) ?_
   refine wl_nil <| c_nil <| ⟨_, _, hS6103, fun w6107 hS6108 => ?_⟩
   refine c_block <| c_seq ?_
   obtain ⟨r6111, hq6112, hM⟩ := bnd_ok hM
   obtain ⟨r6121, hq6122, hM⟩ := bnd_ok hM
   have hH6155 := (hS6108.weaken (.cons_cons _ (.cons_cons _ (.cons_cons _ (.cons_cons _ (.cons_cons _ (.cons_cons _ (.cons_cons _ (.cons_cons _ (.cons_cons _ (.refl _))))))))))).toHeld
   refine c_drawJ (k := 10) (fun f w => ∃ (a6145 : Option Addr) (n6146 : Nat) (c6147 : Nat) (b6149 : Nat) (a6150 : Option Addr) (n6151 : Nat) (c6152 : Nat) (b6154 : Nat), RSl 3 RTour m6085 a6145 n6146 c6147 r6121.tours ∧ RSl 1 RInt m6085 a6150 n6151 c6152 r6111.stops ∧ St w m6085 (.box b6149 59 [.bool r6121.ok, .slice a6145 n6146 c6147, .int .i64 r6121.takes] :: .box b6154 42 [.slice a6150 n6151 c6152, .int .i64 r6111.leave, .int .i64 r6111.fin] :: .raw l4598 (.loop (busy q4598)) :: .raw D4598 (.deferred (some [])) :: .box b4595 3 [.int .i64 y4576] :: .box b4575 3 [.int .i64 y4576] :: .box b43 92 [.slice a6091 l6090.length c6093] :: .row (.slice a6091 l6090.length c6093) 59 3 cs6094 :: .box b32 89 [.slice a23 r19.length c25] :: .row (.slice a23 r19.length c25) 42 3 cs26 :: .box b16 59 [.bool false, .slice none 0 0, .int .i64 0] :: ((dfrs ds4584 ++ L) ++ E)) ∧ f 2 = .pointer (some ⟨b16, 0, none⟩) ∧ f 4 = .pointer (some ⟨b43, 0, none⟩) ∧ f 5 = .pointer (some ⟨b4575, 0, none⟩) ∧ f 8 = .pointer (some ⟨b6154, 0, none⟩) ∧ f 9 = .pointer (some ⟨b6149, 0, none⟩)) (fun w => Held w m6085 (.raw l4598 (.loop (busy q4598)) :: .raw D4598 (.deferred (some [])) :: .box b4595 3 [.int .i64 y4576] :: .box b4575 3 [.int .i64 y4576] :: .box b43 92 [.slice a6091 l6090.length c6093] :: .row (.slice a6091 l6090.length c6093) 59 3 cs6094 :: .box b32 89 [.slice a23 r19.length c25] :: .row (.slice a23 r19.length c25) 42 3 cs26 :: .box b16 59 [.bool false, .slice none 0 0, .int .i64 0] :: ((dfrs ds4584 ++ L) ++ E))) mixed rfl ?_ ?_
   ·replace hH6155 := hH6155.drew1
    have hS6156 := hS6108.drew1
    refine d_v (i := 0) rfl (by kernel_rfl) rfl (r_box ty89 (k := 0) (.there (.there (.there (.there (.there (.there .here)))))) rfl rfl rfl (v := .slice _ _ _) rfl) hH6155 ?_
    refine d_v (i := 1) rfl (by kernel_rfl) rfl (r_move (v := .int .i64 _) rfl) hH6155 ?_
    refine d_v (i := 3) rfl (by kernel_rfl) rfl (r_box ty92 (k := 0) (.there (.there (.there (.there .here)))) rfl rfl rfl (v := .slice _ _ _) rfl) hH6155 ?_
    refine d_v (i := 4) rfl (by kernel_rfl) rfl (r_move (v := .int .i64 _) rfl) hH6155 ?_
    refine d_all (rs := [2, 6, 7]) (by kernel_rfl) (by simp) (fun j hj o ho => ?_)
    simp only [List.mem_cons, List.not_mem_nil, or_false] at hj
    rcases hj with rfl | rfl | rfl
    ·cases ho
     refine wl_call ent43 (vals := [.slice _ _ _, .int .i64 _]) rfl (cg43ro_0f hS6156 hrc27 (.there (.there (.there (.there (.there (.there (.there .here))))))) hq6112) ?_
     rintro _ w6162 ⟨a6158, n6159, c6160, rfl, hr6161, hS6163⟩
     obtain rfl := hr6161.1
     refine wl_nil ?_
     have hH6164 := hS6163.toHeld.mono (Mem.le_refl _) (List.Sublist.subset (.cons_cons _ (.cons_cons _ (.cons_cons _ (.cons_cons _ (.cons_cons _ (.cons_cons _ (.cons_cons _ (.cons_cons _ (.cons_cons _ (.refl _)))))))))))
     refine ⟨hH6164, ?_⟩
     refine d_all (rs := [5, 6, 7]) (by kernel_rfl) (by simp) (fun j hj o ho => ?_)
     simp only [List.mem_cons, List.not_mem_nil, or_false] at hj
     rcases hj with rfl | rfl | rfl
     ·cases ho
      refine wl_call ent44 (vals := [.slice _ _ _, .int .i64 _]) rfl (cg44ro_0f hS6163 hrc6096 (.there (.there (.there (.there (.there .here))))) hq6122) ?_
      rintro _ w6170 ⟨a6166, n6167, c6168, rfl, hr6169, hS6171⟩
      obtain rfl := hr6169.1
      refine wl_nil ?_
      have hH6172 := hS6171.toHeld.mono (Mem.le_refl _) (List.Sublist.subset (.cons_cons _ (.cons_cons _ (.cons_cons _ (.cons_cons _ (.cons_cons _ (.cons_cons _ (.cons_cons _ (.cons_cons _ (.cons_cons _ (.refl _)))))))))))
      refine ⟨hH6172, ?_⟩
      refine d_all (rs := [6, 7]) (by kernel_rfl) (by simp) (fun j hj o ho => ?_)
      simp only [List.mem_cons, List.not_mem_nil, or_false] at hj
      rcases hj with rfl | rfl
      ·cases ho
       refine wl_alloc ty42 rfl hS6171 ?_
       intro b6173 w6174 hS6175
       refine wl_nil ?_
       have hH6176 := hS6175.toHeld.mono (Mem.le_refl _) (List.Sublist.subset (.cons _ (.cons_cons _ (.cons_cons _ (.cons_cons _ (.cons_cons _ (.cons_cons _ (.cons_cons _ (.cons_cons _ (.cons_cons _ (.cons_cons _ (.refl _))))))))))))
       refine ⟨hH6176, ?_⟩
       refine d_all (rs := [7]) (by kernel_rfl) (by simp) (fun j hj o ho => ?_)
       obtain rfl : j = 7 := by simpa using hj
       cases ho
       refine wl_alloc ty59 rfl hS6175 ?_
       intro b6177 w6178 hS6179
       refine wl_nil ?_
       have hH6180 := hS6179.toHeld.mono (Mem.le_refl _) (List.Sublist.subset (.cons _ (.cons _ (.cons_cons _ (.cons_cons _ (.cons_cons _ (.cons_cons _ (.cons_cons _ (.cons_cons _ (.cons_cons _ (.cons_cons _ (.cons_cons _ (.refl _)))))))))))))
       refine ⟨hH6180, ?_⟩
       refine d_all (rs := [8]) (by kernel_rfl) (by simp) (fun j hj o ho => ?_)
       obtain rfl : j = 8 := by simpa using hj
       cases ho
       refine wl_store_box ty42 hS6179 rfl (v := .agg #[.slice _ _ _, .int .i64 _, .int .i64 _]) rfl (vs := [.slice _ _ _, .int .i64 _, .int .i64 _]) rfl rfl rfl (.there .here) (cs' := [.slice _ _ _, .int .i64 _, .int .i64 _]) rfl rfl ?_
       intro w6181 hS6182
       refine wl_nil ?_
       have hH6183 := hS6182.toHeld.mono (Mem.le_refl _) (List.Sublist.subset (.cons _ (.cons _ (.cons_cons _ (.cons_cons _ (.cons_cons _ (.cons_cons _ (.cons_cons _ (.cons_cons _ (.cons_cons _ (.cons_cons _ (.cons_cons _ (.refl _)))))))))))))
       refine ⟨hH6183, ?_⟩
       refine d_all (rs := [9]) (by kernel_rfl) (by simp) (fun j hj o ho => ?_)
       obtain rfl : j = 9 := by simpa using hj
       cases ho
       refine wl_store_box ty59 hS6182 rfl (v := .agg #[.bool _, .slice _ _ _, .int .i64 _]) rfl (vs := [.bool _, .slice _ _ _, .int .i64 _]) rfl rfl rfl .here (cs' := [.bool _, .slice _ _ _, .int .i64 _]) rfl rfl ?_
       intro w6184 hS6185
       refine wl_nil ?_
       have hH6186 := hS6185.toHeld.mono (Mem.le_refl _) (List.Sublist.subset (.cons _ (.cons _ (.cons_cons _ (.cons_cons _ (.cons_cons _ (.cons_cons _ (.cons_cons _ (.cons_cons _ (.cons_cons _ (.cons_cons _ (.cons_cons _ (.refl _)))))))))))))
       refine ⟨hH6186, ?_⟩
       refine d_end (by kernel_rfl) ?_
       exact ⟨_, _, _, _, _, _, _, _, hr6169, hr6161, hS6185, rfl, rfl, rfl, rfl, rfl⟩
      ·cases ho
       refine wl_alloc ty59 rfl hS6171 ?_
       intro b6187 w6188 hS6189
       refine wl_nil ?_
       have hH6190 := hS6189.toHeld.mono (Mem.le_refl _) (List.Sublist.subset (.cons _ (.cons_cons _ (.cons_cons _ (.cons_cons _ (.cons_cons _ (.cons_cons _ (.cons_cons _ (.cons_cons _ (.cons_cons _ (.cons_cons _ (.refl _))))))))))))
       refine ⟨hH6190, ?_⟩
       refine d_all (rs := [6]) (by kernel_rfl) (by simp) (fun j hj o ho => ?_)
       obtain rfl : j = 6 := by simpa using hj
       cases ho
       refine wl_alloc ty42 rfl hS6189 ?_
       intro b6191 w6192 hS6193
       refine wl_nil ?_
       have hH6194 := hS6193.toHeld.mono (Mem.le_refl _) (List.Sublist.subset (.cons _ (.cons _ (.cons_cons _ (.cons_cons _ (.cons_cons _ (.cons_cons _ (.cons_cons _ (.cons_cons _ (.cons_cons _ (.cons_cons _ (.cons_cons _ (.refl _)))))))))))))
       refine ⟨hH6194, ?_⟩
       refine d_all (rs := [8]) (by kernel_rfl) (by simp) (fun j hj o ho => ?_)
       obtain rfl : j = 8 := by simpa using hj
       cases ho
       refine wl_store_box ty42 hS6193 rfl (v := .agg #[.slice _ _ _, .int .i64 _, .int .i64 _]) rfl (vs := [.slice _ _ _, .int .i64 _, .int .i64 _]) rfl rfl rfl .here (cs' := [.slice _ _ _, .int .i64 _, .int .i64 _]) rfl rfl ?_
       intro w6195 hS6196
       refine wl_nil ?_
       have hH6197 := hS6196.toHeld.mono (Mem.le_refl _) (List.Sublist.subset (.cons _ (.cons _ (.cons_cons _ (.cons_cons _ (.cons_cons _ (.cons_cons _ (.cons_cons _ (.cons_cons _ (.cons_cons _ (.cons_cons _ (.cons_cons _ (.refl _)))))))))))))
       refine ⟨hH6197, ?_⟩
       refine d_all (rs := [9]) (by kernel_rfl) (by simp) (fun j hj o ho => ?_)
       obtain rfl : j = 9 := by simpa using hj
       cases ho
       refine wl_store_box ty59 hS6196 rfl (v := .agg #[.bool _, .slice _ _ _, .int .i64 _]) rfl (vs := [.bool _, .slice _ _ _, .int .i64 _]) rfl rfl rfl (.there .here) (cs' := [.bool _, .slice _ _ _, .int .i64 _]) rfl rfl ?_
       intro w6198 hS6199
       refine wl_nil ?_
       have hH6200 := hS6199.toHeld.mono (Mem.le_refl _) (List.Sublist.subset (.cons _ (.cons _ (.cons_cons _ (.cons_cons _ (.cons_cons _ (.cons_cons _ (.cons_cons _ (.cons_cons _ (.cons_cons _ (.cons_cons _ (.cons_cons _ (.refl _)))))))))))))
       refine ⟨hH6200, ?_⟩
       refine d_end (by kernel_rfl) ?_
       have hS6201 := hS6199.front (.there (.there (.there (.there (.there (.there (.there (.there (.there (.there .here))))))))))
       have hS6202 := hS6201.front (.there (.there (.there (.there (.there (.there (.there (.there (.there (.there .here))))))))))
       have hS6203 := hS6202.front (.there (.there (.there (.there (.there (.there (.there (.there (.there (.there .here))))))))))
       have hS6204 := hS6203.front (.there (.there (.there (.there (.there (.there (.there (.there (.there (.there .here))))))))))
       have hS6205 := hS6204.front (.there (.there (.there (.there (.there (.there (.there (.there (.there (.there .here))))))))))
       have hS6206 := hS6205.front (.there (.there (.there (.there (.there (.there (.there (.there (.there (.there .here))))))))))
       have hS6207 := hS6206.front (.there (.there (.there (.there (.there (.there (.there (.there (.there (.there .here))))))))))
       have hS6208 := hS6207.front (.there (.there (.there (.there (.there (.there (.there (.there (.there (.there .here))))))))))
       have hS6209 := hS6208.front (.there (.there (.there (.there (.there (.there (.there (.there (.there (.there .here))))))))))
       have hS6210 := hS6209.front (.there (.there (.there (.there (.there (.there (.there (.there (.there .here)))))))))
       have hS6211 := hS6210.front (.there (.there (.there (.there (.there (.there (.there (.there (.there (.there .here))))))))))
       exact ⟨_, _, _, _, _, _, _, _, hr6169, hr6161, hS6211, rfl, rfl, rfl, rfl, rfl⟩
     ·cases ho
      refine wl_alloc ty42 rfl hS6163 ?_
      intro b6212 w6213 hS6214
      refine wl_nil ?_
      have hH6215 := hS6214.toHeld.mono (Mem.le_refl _) (List.Sublist.subset (.cons _ (.cons_cons _ (.cons_cons _ (.cons_cons _ (.cons_cons _ (.cons_cons _ (.cons_cons _ (.cons_cons _ (.cons_cons _ (.cons_cons _ (.refl _))))))))))))
      refine ⟨hH6215, ?_⟩
      refine d_all (rs := [5, 7]) (by kernel_rfl) (by simp) (fun j hj o ho => ?_)
      simp only [List.mem_cons, List.not_mem_nil, or_false] at hj
      rcases hj with rfl | rfl
      ·cases ho
       refine wl_call ent44 (vals := [.slice _ _ _, .int .i64 _]) rfl (cg44ro_0f hS6214 hrc6096 (.there (.there (.there (.there (.there (.there .here)))))) hq6122) ?_
       rintro _ w6221 ⟨a6217, n6218, c6219, rfl, hr6220, hS6222⟩
       obtain rfl := hr6220.1
       refine wl_nil ?_
       have hH6223 := hS6222.toHeld.mono (Mem.le_refl _) (List.Sublist.subset (.cons _ (.cons_cons _ (.cons_cons _ (.cons_cons _ (.cons_cons _ (.cons_cons _ (.cons_cons _ (.cons_cons _ (.cons_cons _ (.cons_cons _ (.refl _))))))))))))
       refine ⟨hH6223, ?_⟩
       refine d_all (rs := [7]) (by kernel_rfl) (by simp) (fun j hj o ho => ?_)
       obtain rfl : j = 7 := by simpa using hj
       cases ho
       refine wl_alloc ty59 rfl hS6222 ?_
       intro b6224 w6225 hS6226
       refine wl_nil ?_
       have hH6227 := hS6226.toHeld.mono (Mem.le_refl _) (List.Sublist.subset (.cons _ (.cons _ (.cons_cons _ (.cons_cons _ (.cons_cons _ (.cons_cons _ (.cons_cons _ (.cons_cons _ (.cons_cons _ (.cons_cons _ (.cons_cons _ (.refl _)))))))))))))
       refine ⟨hH6227, ?_⟩
       refine d_all (rs := [8]) (by kernel_rfl) (by simp) (fun j hj o ho => ?_)
       obtain rfl : j = 8 := by simpa using hj
       cases ho
       refine wl_store_box ty42 hS6226 rfl (v := .agg #[.slice _ _ _, .int .i64 _, .int .i64 _]) rfl (vs := [.slice _ _ _, .int .i64 _, .int .i64 _]) rfl rfl rfl (.there .here) (cs' := [.slice _ _ _, .int .i64 _, .int .i64 _]) rfl rfl ?_
       intro w6228 hS6229
       refine wl_nil ?_
       have hH6230 := hS6229.toHeld.mono (Mem.le_refl _) (List.Sublist.subset (.cons _ (.cons _ (.cons_cons _ (.cons_cons _ (.cons_cons _ (.cons_cons _ (.cons_cons _ (.cons_cons _ (.cons_cons _ (.cons_cons _ (.cons_cons _ (.refl _)))))))))))))
       refine ⟨hH6230, ?_⟩
       refine d_all (rs := [9]) (by kernel_rfl) (by simp) (fun j hj o ho => ?_)
       obtain rfl : j = 9 := by simpa using hj
       cases ho
       refine wl_store_box ty59 hS6229 rfl (v := .agg #[.bool _, .slice _ _ _, .int .i64 _]) rfl (vs := [.bool _, .slice _ _ _, .int .i64 _]) rfl rfl rfl .here (cs' := [.bool _, .slice _ _ _, .int .i64 _]) rfl rfl ?_
       intro w6231 hS6232
       refine wl_nil ?_
       have hH6233 := hS6232.toHeld.mono (Mem.le_refl _) (List.Sublist.subset (.cons _ (.cons _ (.cons_cons _ (.cons_cons _ (.cons_cons _ (.cons_cons _ (.cons_cons _ (.cons_cons _ (.cons_cons _ (.cons_cons _ (.cons_cons _ (.refl _)))))))))))))
       refine ⟨hH6233, ?_⟩
       refine d_end (by kernel_rfl) ?_
       exact ⟨_, _, _, _, _, _, _, _, hr6220, hr6161, hS6232, rfl, rfl, rfl, rfl, rfl⟩
      ·cases ho
       refine wl_alloc ty59 rfl hS6214 ?_
       intro b6234 w6235 hS6236
       refine wl_nil ?_
       have hH6237 := hS6236.toHeld.mono (Mem.le_refl _) (List.Sublist.subset (.cons _ (.cons _ (.cons_cons _ (.cons_cons _ (.cons_cons _ (.cons_cons _ (.cons_cons _ (.cons_cons _ (.cons_cons _ (.cons_cons _ (.cons_cons _ (.refl _)))))))))))))
       refine ⟨hH6237, ?_⟩
       refine d_all (rs := [5]) (by kernel_rfl) (by simp) (fun j hj o ho => ?_)
       obtain rfl : j = 5 := by simpa using hj
       cases ho
       refine wl_call ent44 (vals := [.slice _ _ _, .int .i64 _]) rfl (cg44ro_0f hS6236 hrc6096 (.there (.there (.there (.there (.there (.there (.there .here))))))) hq6122) ?_
       rintro _ w6243 ⟨a6239, n6240, c6241, rfl, hr6242, hS6244⟩
       obtain rfl := hr6242.1
       refine wl_nil ?_
       have hH6245 := hS6244.toHeld.mono (Mem.le_refl _) (List.Sublist.subset (.cons _ (.cons _ (.cons_cons _ (.cons_cons _ (.cons_cons _ (.cons_cons _ (.cons_cons _ (.cons_cons _ (.cons_cons _ (.cons_cons _ (.cons_cons _ (.refl _)))))))))))))
       refine ⟨hH6245, ?_⟩
       refine d_all (rs := [8]) (by kernel_rfl) (by simp) (fun j hj o ho => ?_)
       obtain rfl : j = 8 := by simpa using hj
       cases ho
       refine wl_store_box ty42 hS6244 rfl (v := .agg #[.slice _ _ _, .int .i64 _, .int .i64 _]) rfl (vs := [.slice _ _ _, .int .i64 _, .int .i64 _]) rfl rfl rfl (.there .here) (cs' := [.slice _ _ _, .int .i64 _, .int .i64 _]) rfl rfl ?_
       intro w6246 hS6247
       refine wl_nil ?_
       have hH6248 := hS6247.toHeld.mono (Mem.le_refl _) (List.Sublist.subset (.cons _ (.cons _ (.cons_cons _ (.cons_cons _ (.cons_cons _ (.cons_cons _ (.cons_cons _ (.cons_cons _ (.cons_cons _ (.cons_cons _ (.cons_cons _ (.refl _)))))))))))))
       refine ⟨hH6248, ?_⟩
       refine d_all (rs := [9]) (by kernel_rfl) (by simp) (fun j hj o ho => ?_)
       obtain rfl : j = 9 := by simpa using hj
       cases ho
       refine wl_store_box ty59 hS6247 rfl (v := .agg #[.bool _, .slice _ _ _, .int .i64 _]) rfl (vs := [.bool _, .slice _ _ _, .int .i64 _]) rfl rfl rfl .here (cs' := [.bool _, .slice _ _ _, .int .i64 _]) rfl rfl ?_
       intro w6249 hS6250
       refine wl_nil ?_
       have hH6251 := hS6250.toHeld.mono (Mem.le_refl _) (List.Sublist.subset (.cons _ (.cons _ (.cons_cons _ (.cons_cons _ (.cons_cons _ (.cons_cons _ (.cons_cons _ (.cons_cons _ (.cons_cons _ (.cons_cons _ (.cons_cons _ (.refl _)))))))))))))
       refine ⟨hH6251, ?_⟩
       refine d_end (by kernel_rfl) ?_
       exact ⟨_, _, _, _, _, _, _, _, hr6242, hr6161, hS6250, rfl, rfl, rfl, rfl, rfl⟩
     ·cases ho
      refine wl_alloc ty59 rfl hS6163 ?_
      intro b6252 w6253 hS6254
      refine wl_nil ?_
      have hH6255 := hS6254.toHeld.mono (Mem.le_refl _) (List.Sublist.subset (.cons _ (.cons_cons _ (.cons_cons _ (.cons_cons _ (.cons_cons _ (.cons_cons _ (.cons_cons _ (.cons_cons _ (.cons_cons _ (.cons_cons _ (.refl _))))))))))))
      refine ⟨hH6255, ?_⟩
      refine d_all (rs := [5, 6]) (by kernel_rfl) (by simp) (fun j hj o ho => ?_)
      simp only [List.mem_cons, List.not_mem_nil, or_false] at hj
      rcases hj with rfl | rfl
      ·cases ho
       refine wl_call ent44 (vals := [.slice _ _ _, .int .i64 _]) rfl (cg44ro_0f hS6254 hrc6096 (.there (.there (.there (.there (.there (.there .here)))))) hq6122) ?_
       rintro _ w6261 ⟨a6257, n6258, c6259, rfl, hr6260, hS6262⟩
       obtain rfl := hr6260.1
       refine wl_nil ?_
       have hH6263 := hS6262.toHeld.mono (Mem.le_refl _) (List.Sublist.subset (.cons _ (.cons_cons _ (.cons_cons _ (.cons_cons _ (.cons_cons _ (.cons_cons _ (.cons_cons _ (.cons_cons _ (.cons_cons _ (.cons_cons _ (.refl _))))))))))))
       refine ⟨hH6263, ?_⟩
       refine d_all (rs := [6]) (by kernel_rfl) (by simp) (fun j hj o ho => ?_)
       obtain rfl : j = 6 := by simpa using hj
       cases ho
       refine wl_alloc ty42 rfl hS6262 ?_
       intro b6264 w6265 hS6266
       refine wl_nil ?_
       have hH6267 := hS6266.toHeld.mono (Mem.le_refl _) (List.Sublist.subset (.cons _ (.cons _ (.cons_cons _ (.cons_cons _ (.cons_cons _ (.cons_cons _ (.cons_cons _ (.cons_cons _ (.cons_cons _ (.cons_cons _ (.cons_cons _ (.refl _)))))))))))))
       refine ⟨hH6267, ?_⟩
       refine d_all (rs := [8]) (by kernel_rfl) (by simp) (fun j hj o ho => ?_)
       obtain rfl : j = 8 := by simpa using hj
       cases ho
       refine wl_store_box ty42 hS6266 rfl (v := .agg #[.slice _ _ _, .int .i64 _, .int .i64 _]) rfl (vs := [.slice _ _ _, .int .i64 _, .int .i64 _]) rfl rfl rfl .here (cs' := [.slice _ _ _, .int .i64 _, .int .i64 _]) rfl rfl ?_
       intro w6268 hS6269
       refine wl_nil ?_
       have hH6270 := hS6269.toHeld.mono (Mem.le_refl _) (List.Sublist.subset (.cons _ (.cons _ (.cons_cons _ (.cons_cons _ (.cons_cons _ (.cons_cons _ (.cons_cons _ (.cons_cons _ (.cons_cons _ (.cons_cons _ (.cons_cons _ (.refl _)))))))))))))
       refine ⟨hH6270, ?_⟩
       refine d_all (rs := [9]) (by kernel_rfl) (by simp) (fun j hj o ho => ?_)
       obtain rfl : j = 9 := by simpa using hj
       cases ho
       refine wl_store_box ty59 hS6269 rfl (v := .agg #[.bool _, .slice _ _ _, .int .i64 _]) rfl (vs := [.bool _, .slice _ _ _, .int .i64 _]) rfl rfl rfl (.there .here) (cs' := [.bool _, .slice _ _ _, .int .i64 _]) rfl rfl ?_
       intro w6271 hS6272
       refine wl_nil ?_
       have hH6273 := hS6272.toHeld.mono (Mem.le_refl _) (List.Sublist.subset (.cons _ (.cons _ (.cons_cons _ (.cons_cons _ (.cons_cons _ (.cons_cons _ (.cons_cons _ (.cons_cons _ (.cons_cons _ (.cons_cons _ (.cons_cons _ (.refl _)))))))))))))
       refine ⟨hH6273, ?_⟩
       refine d_end (by kernel_rfl) ?_
       have hS6274 := hS6272.front (.there (.there (.there (.there (.there (.there (.there (.there (.there (.there .here))))))))))
       have hS6275 := hS6274.front (.there (.there (.there (.there (.there (.there (.there (.there (.there (.there .here))))))))))
       have hS6276 := hS6275.front (.there (.there (.there (.there (.there (.there (.there (.there (.there (.there .here))))))))))
       have hS6277 := hS6276.front (.there (.there (.there (.there (.there (.there (.there (.there (.there (.there .here))))))))))
       have hS6278 := hS6277.front (.there (.there (.there (.there (.there (.there (.there (.there (.there (.there .here))))))))))
       have hS6279 := hS6278.front (.there (.there (.there (.there (.there (.there (.there (.there (.there (.there .here))))))))))
       have hS6280 := hS6279.front (.there (.there (.there (.there (.there (.there (.there (.there (.there (.there .here))))))))))
       have hS6281 := hS6280.front (.there (.there (.there (.there (.there (.there (.there (.there (.there (.there .here))))))))))
       have hS6282 := hS6281.front (.there (.there (.there (.there (.there (.there (.there (.there (.there (.there .here))))))))))
       have hS6283 := hS6282.front (.there (.there (.there (.there (.there (.there (.there (.there (.there .here)))))))))
       have hS6284 := hS6283.front (.there (.there (.there (.there (.there (.there (.there (.there (.there (.there .here))))))))))
       exact ⟨_, _, _, _, _, _, _, _, hr6260, hr6161, hS6284, rfl, rfl, rfl, rfl, rfl⟩
      ·cases ho
       refine wl_alloc ty42 rfl hS6254 ?_
       intro b6285 w6286 hS6287
       refine wl_nil ?_
       have hH6288 := hS6287.toHeld.mono (Mem.le_refl _) (List.Sublist.subset (.cons _ (.cons _ (.cons_cons _ (.cons_cons _ (.cons_cons _ (.cons_cons _ (.cons_cons _ (.cons_cons _ (.cons_cons _ (.cons_cons _ (.cons_cons _ (.refl _)))))))))))))
       refine ⟨hH6288, ?_⟩
       refine d_all (rs := [5]) (by kernel_rfl) (by simp) (fun j hj o ho => ?_)
       obtain rfl : j = 5 := by simpa using hj
       cases ho
       refine wl_call ent44 (vals := [.slice _ _ _, .int .i64 _]) rfl (cg44ro_0f hS6287 hrc6096 (.there (.there (.there (.there (.there (.there (.there .here))))))) hq6122) ?_
       rintro _ w6294 ⟨a6290, n6291, c6292, rfl, hr6293, hS6295⟩
       obtain rfl := hr6293.1
       refine wl_nil ?_
       have hH6296 := hS6295.toHeld.mono (Mem.le_refl _) (List.Sublist.subset (.cons _ (.cons _ (.cons_cons _ (.cons_cons _ (.cons_cons _ (.cons_cons _ (.cons_cons _ (.cons_cons _ (.cons_cons _ (.cons_cons _ (.cons_cons _ (.refl _)))))))))))))
       refine ⟨hH6296, ?_⟩
       refine d_all (rs := [8]) (by kernel_rfl) (by simp) (fun j hj o ho => ?_)
       obtain rfl : j = 8 := by simpa using hj
       cases ho
       refine wl_store_box ty42 hS6295 rfl (v := .agg #[.slice _ _ _, .int .i64 _, .int .i64 _]) rfl (vs := [.slice _ _ _, .int .i64 _, .int .i64 _]) rfl rfl rfl .here (cs' := [.slice _ _ _, .int .i64 _, .int .i64 _]) rfl rfl ?_
       intro w6297 hS6298
       refine wl_nil ?_
       have hH6299 := hS6298.toHeld.mono (Mem.le_refl _) (List.Sublist.subset (.cons _ (.cons _ (.cons_cons _ (.cons_cons _ (.cons_cons _ (.cons_cons _ (.cons_cons _ (.cons_cons _ (.cons_cons _ (.cons_cons _ (.cons_cons _ (.refl _)))))))))))))
       refine ⟨hH6299, ?_⟩
       refine d_all (rs := [9]) (by kernel_rfl) (by simp) (fun j hj o ho => ?_)
       obtain rfl : j = 9 := by simpa using hj
       cases ho
       refine wl_store_box ty59 hS6298 rfl (v := .agg #[.bool _, .slice _ _ _, .int .i64 _]) rfl (vs := [.bool _, .slice _ _ _, .int .i64 _]) rfl rfl rfl (.there .here) (cs' := [.bool _, .slice _ _ _, .int .i64 _]) rfl rfl ?_
       intro w6300 hS6301
       refine wl_nil ?_
       have hH6302 := hS6301.toHeld.mono (Mem.le_refl _) (List.Sublist.subset (.cons _ (.cons _ (.cons_cons _ (.cons_cons _ (.cons_cons _ (.cons_cons _ (.cons_cons _ (.cons_cons _ (.cons_cons _ (.cons_cons _ (.cons_cons _ (.refl _)))))))))))))
       refine ⟨hH6302, ?_⟩
       refine d_end (by kernel_rfl) ?_
       have hS6303 := hS6301.front (.there (.there (.there (.there (.there (.there (.there (.there (.there (.there .here))))))))))
       have hS6304 := hS6303.front (.there (.there (.there (.there (.there (.there (.there (.there (.there (.there .here))))))))))
       have hS6305 := hS6304.front (.there (.there (.there (.there (.there (.there (.there (.there (.there (.there .here))))))))))
       have hS6306 := hS6305.front (.there (.there (.there (.there (.there (.there (.there (.there (.there (.there .here))))))))))
       have hS6307 := hS6306.front (.there (.there (.there (.there (.there (.there (.there (.there (.there (.there .here))))))))))
       have hS6308 := hS6307.front (.there (.there (.there (.there (.there (.there (.there (.there (.there (.there .here))))))))))
       have hS6309 := hS6308.front (.there (.there (.there (.there (.there (.there (.there (.there (.there (.there .here))))))))))
       have hS6310 := hS6309.front (.there (.there (.there (.there (.there (.there (.there (.there (.there (.there .here))))))))))
       have hS6311 := hS6310.front (.there (.there (.there (.there (.there (.there (.there (.there (.there (.there .here))))))))))
       have hS6312 := hS6311.front (.there (.there (.there (.there (.there (.there (.there (.there (.there .here)))))))))
       have hS6313 := hS6312.front (.there (.there (.there (.there (.there (.there (.there (.there (.there (.there .here))))))))))
       exact ⟨_, _, _, _, _, _, _, _, hr6293, hr6161, hS6313, rfl, rfl, rfl, rfl, rfl⟩
    ·cases ho
     refine wl_alloc ty42 rfl hS6156 ?_
     intro b6314 w6315 hS6316
     refine wl_nil ?_
     have hH6317 := hS6316.toHeld.mono (Mem.le_refl _) (List.Sublist.subset (.cons _ (.cons_cons _ (.cons_cons _ (.cons_cons _ (.cons_cons _ (.cons_cons _ (.cons_cons _ (.cons_cons _ (.cons_cons _ (.cons_cons _ (.refl _))))))))))))
     refine ⟨hH6317, ?_⟩
     refine d_all (rs := [2, 7]) (by kernel_rfl) (by simp) (fun j hj o ho => ?_)
     simp only [List.mem_cons, List.not_mem_nil, or_false] at hj
     rcases hj with rfl | rfl
     ·cases ho
      refine wl_call ent43 (vals := [.slice _ _ _, .int .i64 _]) rfl (cg43ro_0f hS6316 hrc27 (.there (.there (.there (.there (.there (.there (.there (.there .here)))))))) hq6112) ?_
      rintro _ w6323 ⟨a6319, n6320, c6321, rfl, hr6322, hS6324⟩
      obtain rfl := hr6322.1
      refine wl_nil ?_
      have hH6325 := hS6324.toHeld.mono (Mem.le_refl _) (List.Sublist.subset (.cons _ (.cons_cons _ (.cons_cons _ (.cons_cons _ (.cons_cons _ (.cons_cons _ (.cons_cons _ (.cons_cons _ (.cons_cons _ (.cons_cons _ (.refl _))))))))))))
      refine ⟨hH6325, ?_⟩
      refine d_all (rs := [5, 7]) (by kernel_rfl) (by simp) (fun j hj o ho => ?_)
      simp only [List.mem_cons, List.not_mem_nil, or_false] at hj
      rcases hj with rfl | rfl
      ·cases ho
       refine wl_call ent44 (vals := [.slice _ _ _, .int .i64 _]) rfl (cg44ro_0f hS6324 hrc6096 (.there (.there (.there (.there (.there (.there .here)))))) hq6122) ?_
       rintro _ w6331 ⟨a6327, n6328, c6329, rfl, hr6330, hS6332⟩
       obtain rfl := hr6330.1
       refine wl_nil ?_
       have hH6333 := hS6332.toHeld.mono (Mem.le_refl _) (List.Sublist.subset (.cons _ (.cons_cons _ (.cons_cons _ (.cons_cons _ (.cons_cons _ (.cons_cons _ (.cons_cons _ (.cons_cons _ (.cons_cons _ (.cons_cons _ (.refl _))))))))))))
       refine ⟨hH6333, ?_⟩
       refine d_all (rs := [7]) (by kernel_rfl) (by simp) (fun j hj o ho => ?_)
       obtain rfl : j = 7 := by simpa using hj
       cases ho
       refine wl_alloc ty59 rfl hS6332 ?_
       intro b6334 w6335 hS6336
       refine wl_nil ?_
       have hH6337 := hS6336.toHeld.mono (Mem.le_refl _) (List.Sublist.subset (.cons _ (.cons _ (.cons_cons _ (.cons_cons _ (.cons_cons _ (.cons_cons _ (.cons_cons _ (.cons_cons _ (.cons_cons _ (.cons_cons _ (.cons_cons _ (.refl _)))))))))))))
       refine ⟨hH6337, ?_⟩
       refine d_all (rs := [8]) (by kernel_rfl) (by simp) (fun j hj o ho => ?_)
       obtain rfl : j = 8 := by simpa using hj
       cases ho
       refine wl_store_box ty42 hS6336 rfl (v := .agg #[.slice _ _ _, .int .i64 _, .int .i64 _]) rfl (vs := [.slice _ _ _, .int .i64 _, .int .i64 _]) rfl rfl rfl (.there .here) (cs' := [.slice _ _ _, .int .i64 _, .int .i64 _]) rfl rfl ?_
       intro w6338 hS6339
       refine wl_nil ?_
       have hH6340 := hS6339.toHeld.mono (Mem.le_refl _) (List.Sublist.subset (.cons _ (.cons _ (.cons_cons _ (.cons_cons _ (.cons_cons _ (.cons_cons _ (.cons_cons _ (.cons_cons _ (.cons_cons _ (.cons_cons _ (.cons_cons _ (.refl _)))))))))))))
       refine ⟨hH6340, ?_⟩
       refine d_all (rs := [9]) (by kernel_rfl) (by simp) (fun j hj o ho => ?_)
       obtain rfl : j = 9 := by simpa using hj
       cases ho
       refine wl_store_box ty59 hS6339 rfl (v := .agg #[.bool _, .slice _ _ _, .int .i64 _]) rfl (vs := [.bool _, .slice _ _ _, .int .i64 _]) rfl rfl rfl .here (cs' := [.bool _, .slice _ _ _, .int .i64 _]) rfl rfl ?_
       intro w6341 hS6342
       refine wl_nil ?_
       have hH6343 := hS6342.toHeld.mono (Mem.le_refl _) (List.Sublist.subset (.cons _ (.cons _ (.cons_cons _ (.cons_cons _ (.cons_cons _ (.cons_cons _ (.cons_cons _ (.cons_cons _ (.cons_cons _ (.cons_cons _ (.cons_cons _ (.refl _)))))))))))))
       refine ⟨hH6343, ?_⟩
       refine d_end (by kernel_rfl) ?_
       exact ⟨_, _, _, _, _, _, _, _, hr6330, hr6322, hS6342, rfl, rfl, rfl, rfl, rfl⟩
      ·cases ho
       refine wl_alloc ty59 rfl hS6324 ?_
       intro b6344 w6345 hS6346
       refine wl_nil ?_
       have hH6347 := hS6346.toHeld.mono (Mem.le_refl _) (List.Sublist.subset (.cons _ (.cons _ (.cons_cons _ (.cons_cons _ (.cons_cons _ (.cons_cons _ (.cons_cons _ (.cons_cons _ (.cons_cons _ (.cons_cons _ (.cons_cons _ (.refl _)))))))))))))
       refine ⟨hH6347, ?_⟩
       refine d_all (rs := [5]) (by kernel_rfl) (by simp) (fun j hj o ho => ?_)
       obtain rfl : j = 5 := by simpa using hj
       cases ho
       refine wl_call ent44 (vals := [.slice _ _ _, .int .i64 _]) rfl (cg44ro_0f hS6346 hrc6096 (.there (.there (.there (.there (.there (.there (.there .here))))))) hq6122) ?_
       rintro _ w6353 ⟨a6349, n6350, c6351, rfl, hr6352, hS6354⟩
       obtain rfl := hr6352.1
       refine wl_nil ?_
       have hH6355 := hS6354.toHeld.mono (Mem.le_refl _) (List.Sublist.subset (.cons _ (.cons _ (.cons_cons _ (.cons_cons _ (.cons_cons _ (.cons_cons _ (.cons_cons _ (.cons_cons _ (.cons_cons _ (.cons_cons _ (.cons_cons _ (.refl _)))))))))))))
       refine ⟨hH6355, ?_⟩
       refine d_all (rs := [8]) (by kernel_rfl) (by simp) (fun j hj o ho => ?_)
       obtain rfl : j = 8 := by simpa using hj
       cases ho
       refine wl_store_box ty42 hS6354 rfl (v := .agg #[.slice _ _ _, .int .i64 _, .int .i64 _]) rfl (vs := [.slice _ _ _, .int .i64 _, .int .i64 _]) rfl rfl rfl (.there .here) (cs' := [.slice _ _ _, .int .i64 _, .int .i64 _]) rfl rfl ?_
       intro w6356 hS6357
       refine wl_nil ?_
       have hH6358 := hS6357.toHeld.mono (Mem.le_refl _) (List.Sublist.subset (.cons _ (.cons _ (.cons_cons _ (.cons_cons _ (.cons_cons _ (.cons_cons _ (.cons_cons _ (.cons_cons _ (.cons_cons _ (.cons_cons _ (.cons_cons _ (.refl _)))))))))))))
       refine ⟨hH6358, ?_⟩
       refine d_all (rs := [9]) (by kernel_rfl) (by simp) (fun j hj o ho => ?_)
       obtain rfl : j = 9 := by simpa using hj
       cases ho
       refine wl_store_box ty59 hS6357 rfl (v := .agg #[.bool _, .slice _ _ _, .int .i64 _]) rfl (vs := [.bool _, .slice _ _ _, .int .i64 _]) rfl rfl rfl .here (cs' := [.bool _, .slice _ _ _, .int .i64 _]) rfl rfl ?_
       intro w6359 hS6360
       refine wl_nil ?_
       have hH6361 := hS6360.toHeld.mono (Mem.le_refl _) (List.Sublist.subset (.cons _ (.cons _ (.cons_cons _ (.cons_cons _ (.cons_cons _ (.cons_cons _ (.cons_cons _ (.cons_cons _ (.cons_cons _ (.cons_cons _ (.cons_cons _ (.refl _)))))))))))))
       refine ⟨hH6361, ?_⟩
       refine d_end (by kernel_rfl) ?_
       exact ⟨_, _, _, _, _, _, _, _, hr6352, hr6322, hS6360, rfl, rfl, rfl, rfl, rfl⟩
     ·cases ho
      refine wl_alloc ty59 rfl hS6316 ?_
      intro b6362 w6363 hS6364
      refine wl_nil ?_
      have hH6365 := hS6364.toHeld.mono (Mem.le_refl _) (List.Sublist.subset (.cons _ (.cons _ (.cons_cons _ (.cons_cons _ (.cons_cons _ (.cons_cons _ (.cons_cons _ (.cons_cons _ (.cons_cons _ (.cons_cons _ (.cons_cons _ (.refl _)))))))))))))
      refine ⟨hH6365, ?_⟩
      refine d_all (rs := [2]) (by kernel_rfl) (by simp) (fun j hj o ho => ?_)
      obtain rfl : j = 2 := by simpa using hj
      cases ho
      refine wl_call ent43 (vals := [.slice _ _ _, .int .i64 _]) rfl (cg43ro_0f hS6364 hrc27 (.there (.there (.there (.there (.there (.there (.there (.there (.there .here))))))))) hq6112) ?_
      rintro _ w6371 ⟨a6367, n6368, c6369, rfl, hr6370, hS6372⟩
      obtain rfl := hr6370.1
      refine wl_nil ?_
      have hH6373 := hS6372.toHeld.mono (Mem.le_refl _) (List.Sublist.subset (.cons _ (.cons _ (.cons_cons _ (.cons_cons _ (.cons_cons _ (.cons_cons _ (.cons_cons _ (.cons_cons _ (.cons_cons _ (.cons_cons _ (.cons_cons _ (.refl _)))))))))))))
      refine ⟨hH6373, ?_⟩
      refine d_all (rs := [5]) (by kernel_rfl) (by simp) (fun j hj o ho => ?_)
      obtain rfl : j = 5 := by simpa using hj
      cases ho
      refine wl_call ent44 (vals := [.slice _ _ _, .int .i64 _]) rfl (cg44ro_0f hS6372 hrc6096 (.there (.there (.there (.there (.there (.there (.there .here))))))) hq6122) ?_
      rintro _ w6379 ⟨a6375, n6376, c6377, rfl, hr6378, hS6380⟩
      obtain rfl := hr6378.1
      refine wl_nil ?_
      have hH6381 := hS6380.toHeld.mono (Mem.le_refl _) (List.Sublist.subset (.cons _ (.cons _ (.cons_cons _ (.cons_cons _ (.cons_cons _ (.cons_cons _ (.cons_cons _ (.cons_cons _ (.cons_cons _ (.cons_cons _ (.cons_cons _ (.refl _)))))))))))))
      refine ⟨hH6381, ?_⟩
      refine d_all (rs := [8]) (by kernel_rfl) (by simp) (fun j hj o ho => ?_)
      obtain rfl : j = 8 := by simpa using hj
      cases ho
      refine wl_store_box ty42 hS6380 rfl (v := .agg #[.slice _ _ _, .int .i64 _, .int .i64 _]) rfl (vs := [.slice _ _ _, .int .i64 _, .int .i64 _]) rfl rfl rfl (.there .here) (cs' := [.slice _ _ _, .int .i64 _, .int .i64 _]) rfl rfl ?_
      intro w6382 hS6383
      refine wl_nil ?_
      have hH6384 := hS6383.toHeld.mono (Mem.le_refl _) (List.Sublist.subset (.cons _ (.cons _ (.cons_cons _ (.cons_cons _ (.cons_cons _ (.cons_cons _ (.cons_cons _ (.cons_cons _ (.cons_cons _ (.cons_cons _ (.cons_cons _ (.refl _)))))))))))))
      refine ⟨hH6384, ?_⟩
      refine d_all (rs := [9]) (by kernel_rfl) (by simp) (fun j hj o ho => ?_)
      obtain rfl : j = 9 := by simpa using hj
      cases ho
      refine wl_store_box ty59 hS6383 rfl (v := .agg #[.bool _, .slice _ _ _, .int .i64 _]) rfl (vs := [.bool _, .slice _ _ _, .int .i64 _]) rfl rfl rfl .here (cs' := [.bool _, .slice _ _ _, .int .i64 _]) rfl rfl ?_
      intro w6385 hS6386
      refine wl_nil ?_
      have hH6387 := hS6386.toHeld.mono (Mem.le_refl _) (List.Sublist.subset (.cons _ (.cons _ (.cons_cons _ (.cons_cons _ (.cons_cons _ (.cons_cons _ (.cons_cons _ (.cons_cons _ (.cons_cons _ (.cons_cons _ (.cons_cons _ (.refl _)))))))))))))
      refine ⟨hH6387, ?_⟩
      refine d_end (by kernel_rfl) ?_
      exact ⟨_, _, _, _, _, _, _, _, hr6378, hr6370, hS6386, rfl, rfl, rfl, rfl, rfl⟩
    ·cases ho
     refine wl_alloc ty59 rfl hS6156 ?_
     intro b6388 w6389 hS6390
     refine wl_nil ?_
     have hH6391 := hS6390.toHeld.mono (Mem.le_refl _) (List.Sublist.subset (.cons _ (.cons_cons _ (.cons_cons _ (.cons_cons _ (.cons_cons _ (.cons_cons _ (.cons_cons _ (.cons_cons _ (.cons_cons _ (.cons_cons _ (.refl _))))))))))))
     refine ⟨hH6391, ?_⟩
     refine d_all (rs := [2, 6]) (by kernel_rfl) (by simp) (fun j hj o ho => ?_)
     simp only [List.mem_cons, List.not_mem_nil, or_false] at hj
     rcases hj with rfl | rfl
     ·cases ho
      refine wl_call ent43 (vals := [.slice _ _ _, .int .i64 _]) rfl (cg43ro_0f hS6390 hrc27 (.there (.there (.there (.there (.there (.there (.there (.there .here)))))))) hq6112) ?_
      rintro _ w6397 ⟨a6393, n6394, c6395, rfl, hr6396, hS6398⟩
      obtain rfl := hr6396.1
      refine wl_nil ?_
      have hH6399 := hS6398.toHeld.mono (Mem.le_refl _) (List.Sublist.subset (.cons _ (.cons_cons _ (.cons_cons _ (.cons_cons _ (.cons_cons _ (.cons_cons _ (.cons_cons _ (.cons_cons _ (.cons_cons _ (.cons_cons _ (.refl _))))))))))))
      refine ⟨hH6399, ?_⟩
      refine d_all (rs := [5, 6]) (by kernel_rfl) (by simp) (fun j hj o ho => ?_)
      simp only [List.mem_cons, List.not_mem_nil, or_false] at hj
      rcases hj with rfl | rfl
      ·cases ho
       refine wl_call ent44 (vals := [.slice _ _ _, .int .i64 _]) rfl (cg44ro_0f hS6398 hrc6096 (.there (.there (.there (.there (.there (.there .here)))))) hq6122) ?_
       rintro _ w6405 ⟨a6401, n6402, c6403, rfl, hr6404, hS6406⟩
       obtain rfl := hr6404.1
       refine wl_nil ?_
       have hH6407 := hS6406.toHeld.mono (Mem.le_refl _) (List.Sublist.subset (.cons _ (.cons_cons _ (.cons_cons _ (.cons_cons _ (.cons_cons _ (.cons_cons _ (.cons_cons _ (.cons_cons _ (.cons_cons _ (.cons_cons _ (.refl _))))))))))))
       refine ⟨hH6407, ?_⟩
       refine d_all (rs := [6]) (by kernel_rfl) (by simp) (fun j hj o ho => ?_)
       obtain rfl : j = 6 := by simpa using hj
       cases ho
       refine wl_alloc ty42 rfl hS6406 ?_
       intro b6408 w6409 hS6410
       refine wl_nil ?_
       have hH6411 := hS6410.toHeld.mono (Mem.le_refl _) (List.Sublist.subset (.cons _ (.cons _ (.cons_cons _ (.cons_cons _ (.cons_cons _ (.cons_cons _ (.cons_cons _ (.cons_cons _ (.cons_cons _ (.cons_cons _ (.cons_cons _ (.refl _)))))))))))))
       refine ⟨hH6411, ?_⟩
       refine d_all (rs := [8]) (by kernel_rfl) (by simp) (fun j hj o ho => ?_)
       obtain rfl : j = 8 := by simpa using hj
       cases ho
       refine wl_store_box ty42 hS6410 rfl (v := .agg #[.slice _ _ _, .int .i64 _, .int .i64 _]) rfl (vs := [.slice _ _ _, .int .i64 _, .int .i64 _]) rfl rfl rfl .here (cs' := [.slice _ _ _, .int .i64 _, .int .i64 _]) rfl rfl ?_
       intro w6412 hS6413
       refine wl_nil ?_
       have hH6414 := hS6413.toHeld.mono (Mem.le_refl _) (List.Sublist.subset (.cons _ (.cons _ (.cons_cons _ (.cons_cons _ (.cons_cons _ (.cons_cons _ (.cons_cons _ (.cons_cons _ (.cons_cons _ (.cons_cons _ (.cons_cons _ (.refl _)))))))))))))
       refine ⟨hH6414, ?_⟩
       refine d_all (rs := [9]) (by kernel_rfl) (by simp) (fun j hj o ho => ?_)
       obtain rfl : j = 9 := by simpa using hj
       cases ho
       refine wl_store_box ty59 hS6413 rfl (v := .agg #[.bool _, .slice _ _ _, .int .i64 _]) rfl (vs := [.bool _, .slice _ _ _, .int .i64 _]) rfl rfl rfl (.there .here) (cs' := [.bool _, .slice _ _ _, .int .i64 _]) rfl rfl ?_
       intro w6415 hS6416
       refine wl_nil ?_
       have hH6417 := hS6416.toHeld.mono (Mem.le_refl _) (List.Sublist.subset (.cons _ (.cons _ (.cons_cons _ (.cons_cons _ (.cons_cons _ (.cons_cons _ (.cons_cons _ (.cons_cons _ (.cons_cons _ (.cons_cons _ (.cons_cons _ (.refl _)))))))))))))
       refine ⟨hH6417, ?_⟩
       refine d_end (by kernel_rfl) ?_
       have hS6418 := hS6416.front (.there (.there (.there (.there (.there (.there (.there (.there (.there (.there .here))))))))))
       have hS6419 := hS6418.front (.there (.there (.there (.there (.there (.there (.there (.there (.there (.there .here))))))))))
       have hS6420 := hS6419.front (.there (.there (.there (.there (.there (.there (.there (.there (.there (.there .here))))))))))
       have hS6421 := hS6420.front (.there (.there (.there (.there (.there (.there (.there (.there (.there (.there .here))))))))))
       have hS6422 := hS6421.front (.there (.there (.there (.there (.there (.there (.there (.there (.there (.there .here))))))))))
       have hS6423 := hS6422.front (.there (.there (.there (.there (.there (.there (.there (.there (.there (.there .here))))))))))
       have hS6424 := hS6423.front (.there (.there (.there (.there (.there (.there (.there (.there (.there (.there .here))))))))))
       have hS6425 := hS6424.front (.there (.there (.there (.there (.there (.there (.there (.there (.there (.there .here))))))))))
       have hS6426 := hS6425.front (.there (.there (.there (.there (.there (.there (.there (.there (.there (.there .here))))))))))
       have hS6427 := hS6426.front (.there (.there (.there (.there (.there (.there (.there (.there (.there .here)))))))))
       have hS6428 := hS6427.front (.there (.there (.there (.there (.there (.there (.there (.there (.there (.there .here))))))))))
       exact ⟨_, _, _, _, _, _, _, _, hr6404, hr6396, hS6428, rfl, rfl, rfl, rfl, rfl⟩
      ·cases ho
       refine wl_alloc ty42 rfl hS6398 ?_
       intro b6429 w6430 hS6431
       refine wl_nil ?_
       have hH6432 := hS6431.toHeld.mono (Mem.le_refl _) (List.Sublist.subset (.cons _ (.cons _ (.cons_cons _ (.cons_cons _ (.cons_cons _ (.cons_cons _ (.cons_cons _ (.cons_cons _ (.cons_cons _ (.cons_cons _ (.cons_cons _ (.refl _)))))))))))))
       refine ⟨hH6432, ?_⟩
       refine d_all (rs := [5]) (by kernel_rfl) (by simp) (fun j hj o ho => ?_)
       obtain rfl : j = 5 := by simpa using hj
       cases ho
       refine wl_call ent44 (vals := [.slice _ _ _, .int .i64 _]) rfl (cg44ro_0f hS6431 hrc6096 (.there (.there (.there (.there (.there (.there (.there .here))))))) hq6122) ?_
       rintro _ w6438 ⟨a6434, n6435, c6436, rfl, hr6437, hS6439⟩
       obtain rfl := hr6437.1
       refine wl_nil ?_
       have hH6440 := hS6439.toHeld.mono (Mem.le_refl _) (List.Sublist.subset (.cons _ (.cons _ (.cons_cons _ (.cons_cons _ (.cons_cons _ (.cons_cons _ (.cons_cons _ (.cons_cons _ (.cons_cons _ (.cons_cons _ (.cons_cons _ (.refl _)))))))))))))
       refine ⟨hH6440, ?_⟩
       refine d_all (rs := [8]) (by kernel_rfl) (by simp) (fun j hj o ho => ?_)
       obtain rfl : j = 8 := by simpa using hj
       cases ho
       refine wl_store_box ty42 hS6439 rfl (v := .agg #[.slice _ _ _, .int .i64 _, .int .i64 _]) rfl (vs := [.slice _ _ _, .int .i64 _, .int .i64 _]) rfl rfl rfl .here (cs' := [.slice _ _ _, .int .i64 _, .int .i64 _]) rfl rfl ?_
       intro w6441 hS6442
       refine wl_nil ?_
       have hH6443 := hS6442.toHeld.mono (Mem.le_refl _) (List.Sublist.subset (.cons _ (.cons _ (.cons_cons _ (.cons_cons _ (.cons_cons _ (.cons_cons _ (.cons_cons _ (.cons_cons _ (.cons_cons _ (.cons_cons _ (.cons_cons _ (.refl _)))))))))))))
       refine ⟨hH6443, ?_⟩
       refine d_all (rs := [9]) (by kernel_rfl) (by simp) (fun j hj o ho => ?_)
       obtain rfl : j = 9 := by simpa using hj
       cases ho
       refine wl_store_box ty59 hS6442 rfl (v := .agg #[.bool _, .slice _ _ _, .int .i64 _]) rfl (vs := [.bool _, .slice _ _ _, .int .i64 _]) rfl rfl rfl (.there .here) (cs' := [.bool _, .slice _ _ _, .int .i64 _]) rfl rfl ?_
       intro w6444 hS6445
       refine wl_nil ?_
       have hH6446 := hS6445.toHeld.mono (Mem.le_refl _) (List.Sublist.subset (.cons _ (.cons _ (.cons_cons _ (.cons_cons _ (.cons_cons _ (.cons_cons _ (.cons_cons _ (.cons_cons _ (.cons_cons _ (.cons_cons _ (.cons_cons _ (.refl _)))))))))))))
       refine ⟨hH6446, ?_⟩
       refine d_end (by kernel_rfl) ?_
       have hS6447 := hS6445.front (.there (.there (.there (.there (.there (.there (.there (.there (.there (.there .here))))))))))
       have hS6448 := hS6447.front (.there (.there (.there (.there (.there (.there (.there (.there (.there (.there .here))))))))))
       have hS6449 := hS6448.front (.there (.there (.there (.there (.there (.there (.there (.there (.there (.there .here))))))))))
       have hS6450 := hS6449.front (.there (.there (.there (.there (.there (.there (.there (.there (.there (.there .here))))))))))
       have hS6451 := hS6450.front (.there (.there (.there (.there (.there (.there (.there (.there (.there (.there .here))))))))))
       have hS6452 := hS6451.front (.there (.there (.there (.there (.there (.there (.there (.there (.there (.there .here))))))))))
       have hS6453 := hS6452.front (.there (.there (.there (.there (.there (.there (.there (.there (.there (.there .here))))))))))
       have hS6454 := hS6453.front (.there (.there (.there (.there (.there (.there (.there (.there (.there (.there .here))))))))))
       have hS6455 := hS6454.front (.there (.there (.there (.there (.there (.there (.there (.there (.there (.there .here))))))))))
       have hS6456 := hS6455.front (.there (.there (.there (.there (.there (.there (.there (.there (.there .here)))))))))
       have hS6457 := hS6456.front (.there (.there (.there (.there (.there (.there (.there (.there (.there (.there .here))))))))))
       exact ⟨_, _, _, _, _, _, _, _, hr6437, hr6396, hS6457, rfl, rfl, rfl, rfl, rfl⟩
     ·cases ho
      refine wl_alloc ty42 rfl hS6390 ?_
      intro b6458 w6459 hS6460
      refine wl_nil ?_
      have hH6461 := hS6460.toHeld.mono (Mem.le_refl _) (List.Sublist.subset (.cons _ (.cons _ (.cons_cons _ (.cons_cons _ (.cons_cons _ (.cons_cons _ (.cons_cons _ (.cons_cons _ (.cons_cons _ (.cons_cons _ (.cons_cons _ (.refl _)))))))))))))
      refine ⟨hH6461, ?_⟩
      refine d_all (rs := [2]) (by kernel_rfl) (by simp) (fun j hj o ho => ?_)
      obtain rfl : j = 2 := by simpa using hj
      cases ho
      refine wl_call ent43 (vals := [.slice _ _ _, .int .i64 _]) rfl (cg43ro_0f hS6460 hrc27 (.there (.there (.there (.there (.there (.there (.there (.there (.there .here))))))))) hq6112) ?_
      rintro _ w6467 ⟨a6463, n6464, c6465, rfl, hr6466, hS6468⟩
      obtain rfl := hr6466.1
      refine wl_nil ?_
      have hH6469 := hS6468.toHeld.mono (Mem.le_refl _) (List.Sublist.subset (.cons _ (.cons _ (.cons_cons _ (.cons_cons _ (.cons_cons _ (.cons_cons _ (.cons_cons _ (.cons_cons _ (.cons_cons _ (.cons_cons _ (.cons_cons _ (.refl _)))))))))))))
      refine ⟨hH6469, ?_⟩
      refine d_all (rs := [5]) (by kernel_rfl) (by simp) (fun j hj o ho => ?_)
      obtain rfl : j = 5 := by simpa using hj
      cases ho
      refine wl_call ent44 (vals := [.slice _ _ _, .int .i64 _]) rfl (cg44ro_0f hS6468 hrc6096 (.there (.there (.there (.there (.there (.there (.there .here))))))) hq6122) ?_
      rintro _ w6475 ⟨a6471, n6472, c6473, rfl, hr6474, hS6476⟩
      obtain rfl := hr6474.1
      refine wl_nil ?_
      have hH6477 := hS6476.toHeld.mono (Mem.le_refl _) (List.Sublist.subset (.cons _ (.cons _ (.cons_cons _ (.cons_cons _ (.cons_cons _ (.cons_cons _ (.cons_cons _ (.cons_cons _ (.cons_cons _ (.cons_cons _ (.cons_cons _ (.refl _)))))))))))))
      refine ⟨hH6477, ?_⟩
      refine d_all (rs := [8]) (by kernel_rfl) (by simp) (fun j hj o ho => ?_)
      obtain rfl : j = 8 := by simpa using hj
      cases ho
      refine wl_store_box ty42 hS6476 rfl (v := .agg #[.slice _ _ _, .int .i64 _, .int .i64 _]) rfl (vs := [.slice _ _ _, .int .i64 _, .int .i64 _]) rfl rfl rfl .here (cs' := [.slice _ _ _, .int .i64 _, .int .i64 _]) rfl rfl ?_
      intro w6478 hS6479
      refine wl_nil ?_
      have hH6480 := hS6479.toHeld.mono (Mem.le_refl _) (List.Sublist.subset (.cons _ (.cons _ (.cons_cons _ (.cons_cons _ (.cons_cons _ (.cons_cons _ (.cons_cons _ (.cons_cons _ (.cons_cons _ (.cons_cons _ (.cons_cons _ (.refl _)))))))))))))
      refine ⟨hH6480, ?_⟩
      refine d_all (rs := [9]) (by kernel_rfl) (by simp) (fun j hj o ho => ?_)
      obtain rfl : j = 9 := by simpa using hj
      cases ho
      refine wl_store_box ty59 hS6479 rfl (v := .agg #[.bool _, .slice _ _ _, .int .i64 _]) rfl (vs := [.bool _, .slice _ _ _, .int .i64 _]) rfl rfl rfl (.there .here) (cs' := [.bool _, .slice _ _ _, .int .i64 _]) rfl rfl ?_
      intro w6481 hS6482
      refine wl_nil ?_
      have hH6483 := hS6482.toHeld.mono (Mem.le_refl _) (List.Sublist.subset (.cons _ (.cons _ (.cons_cons _ (.cons_cons _ (.cons_cons _ (.cons_cons _ (.cons_cons _ (.cons_cons _ (.cons_cons _ (.cons_cons _ (.cons_cons _ (.refl _)))))))))))))
      refine ⟨hH6483, ?_⟩
      refine d_end (by kernel_rfl) ?_
      have hS6484 := hS6482.front (.there (.there (.there (.there (.there (.there (.there (.there (.there (.there .here))))))))))
      have hS6485 := hS6484.front (.there (.there (.there (.there (.there (.there (.there (.there (.there (.there .here))))))))))
      have hS6486 := hS6485.front (.there (.there (.there (.there (.there (.there (.there (.there (.there (.there .here))))))))))
      have hS6487 := hS6486.front (.there (.there (.there (.there (.there (.there (.there (.there (.there (.there .here))))))))))
      have hS6488 := hS6487.front (.there (.there (.there (.there (.there (.there (.there (.there (.there (.there .here))))))))))
      have hS6489 := hS6488.front (.there (.there (.there (.there (.there (.there (.there (.there (.there (.there .here))))))))))
      have hS6490 := hS6489.front (.there (.there (.there (.there (.there (.there (.there (.there (.there (.there .here))))))))))
      have hS6491 := hS6490.front (.there (.there (.there (.there (.there (.there (.there (.there (.there (.there .here))))))))))
      have hS6492 := hS6491.front (.there (.there (.there (.there (.there (.there (.there (.there (.there (.there .here))))))))))
      have hS6493 := hS6492.front (.there (.there (.there (.there (.there (.there (.there (.there (.there .here)))))))))
      have hS6494 := hS6493.front (.there (.there (.there (.there (.there (.there (.there (.there (.there (.there .here))))))))))
      exact ⟨_, _, _, _, _, _, _, _, hr6474, hr6466, hS6494, rfl, rfl, rfl, rfl, rfl⟩
   ·rintro f6501 w6502 ⟨a6145, n6146, c6147, b6149, a6150, n6151, c6152, b6154, hr6148, hr6153, hS6495, e6496, e6497, e6498, e6499, e6500⟩
    obtain rfl := hr6148.1
    obtain rfl := hr6153.1
    refine c_know (t := 2) e6496 <| c_know (t := 4) e6497 <| c_know (t := 5) e6498 <| c_know (t := 8) e6499 <| c_know (t := 9) e6500 ?_
    clear e6496 e6497 e6498 e6499 e6500
    refine c_seq <| c_seq <| c_region <| wl_h hS6495.toHeld (r_fieldAddr fld42_0 (b := _) (o := _) rfl) <| wl_h hS6495.toHeld (r_box ty35 (k := 0) (.there .here) rfl rfl rfl (v := .slice _ _ _) rfl) ?_
    refine wl_h hS6495.toHeld (r_len Try.underlying35 (a := _) (n := _) (c := _) rfl) <| wl_h hS6495.toHeld (r_eql (a := _) (b := _) rfl rfl) <| wl_h hS6495.toHeld (r_move (v := .bool _) rfl) <| wl_split rfl (c := _) (t := 39) (fun h6503 => ?_) (fun h6503 => ?_)
    ·replace hM := bif_t h6503 hM
     refine wl_off (t := 39) (b := true) rfl rfl rfl ?_
     refine wl_off (t := 39) (b := true) rfl rfl rfl ?_
     refine wl_off (t := 39) (b := true) rfl rfl rfl ?_
     refine wl_h hS6495.toHeld (r_pick_t rfl (v := .bool _) rfl) <| wl_nil <| c_true rfl <| c_exit <| q_hit <| c_nil ?_
     have hS6504 := hS6495.weaken (.cons _ (.cons _ (.cons_cons _ (.cons_cons _ (.cons_cons _ (.cons_cons _ (.cons_cons _ (.cons_cons _ (.cons_cons _ (.cons_cons _ (.cons_cons _ (.refl _))))))))))))
     obtain rfl := some_eq hM
     refine ⟨_, _, hS6504, fun w6505 hS6506 => ?_⟩
     exact ⟨rfl, ⟨m6085, a6091, l6090.length, c6093, cs6094⟩, ⟨le6089, row_n (hS6504.toHeld.own (.there (.there (.there (.there (.there .here)))))) hrc6096 (by decide), hrc6096⟩, hS6506⟩
    ·replace hM := bif_f h6503 hM
     refine wl_on (t := 39) rfl rfl ?_
     refine wl_h hS6495.toHeld (r_fieldAddr fld59_0 (b := _) (o := _) rfl) <| wl_on (t := 39) rfl rfl ?_
     refine wl_h hS6495.toHeld (r_box ty4 (k := 0) .here rfl rfl rfl (v := .bool _) rfl) <| wl_on (t := 39) rfl rfl ?_
     refine wl_h hS6495.toHeld (r_not (b := _) rfl) <| wl_h hS6495.toHeld (r_pick_f rfl (v := .bool _) rfl) <| wl_nil <| c_cond (c := _) rfl (fun h6507 => ?_) (fun h6507 => ?_)
     ·replace hM := bif_t h6507 hM
      refine c_exit <| q_hit <| c_nil ?_
      have hS6508 := hS6495.weaken (.cons _ (.cons _ (.cons_cons _ (.cons_cons _ (.cons_cons _ (.cons_cons _ (.cons_cons _ (.cons_cons _ (.cons_cons _ (.cons_cons _ (.cons_cons _ (.refl _))))))))))))
      obtain rfl := some_eq hM
      refine ⟨_, _, hS6508, fun w6509 hS6510 => ?_⟩
      exact ⟨rfl, ⟨m6085, a6091, l6090.length, c6093, cs6094⟩, ⟨le6089, row_n (hS6508.toHeld.own (.there (.there (.there (.there (.there .here)))))) hrc6096 (by decide), hrc6096⟩, hS6510⟩
     ·replace hM := bif_f h6507 hM
      refine c_skip <| c_seq ?_
      obtain ⟨hc6513, hM⟩ := chk_ok hM
      obtain ⟨hc6514, hM⟩ := chk_ok hM
      obtain ⟨hc6521, hM⟩ := chk_ok hM
      have hH6548 := (hS6495.weaken (.cons_cons _ (.cons_cons _ (.cons_cons _ (.cons_cons _ (.cons_cons _ (.cons_cons _ (.cons_cons _ (.cons _ (.cons_cons _ (.cons _ (.cons_cons _ (.refl _))))))))))))).toHeld
      refine c_drawJ (k := 16) (fun f w => ∃ (b6541 : Nat) (a6542 : Option Addr) (n6543 : Nat) (c6544 : Nat) (cs6545 : List Value), n6543 = (([(⟨r6111.stops, r6111.leave, r6111.fin⟩ : Tour)] ++ r6121.tours)).length ∧ RCs 3 RTour m6085 cs6545 ([(⟨r6111.stops, r6111.leave, r6111.fin⟩ : Tour)] ++ r6121.tours) ∧ St w m6085 (.box b6541 59 [.bool true, .slice a6542 n6543 c6544, .int .i64 ((r6121.takes + r6111.fin) - r6111.leave)] :: .row (.slice a6542 n6543 c6544) 42 3 cs6545 :: .raw l4598 (.loop (busy q4598)) :: .raw D4598 (.deferred (some [])) :: .box b4595 3 [.int .i64 y4576] :: .box b4575 3 [.int .i64 y4576] :: .box b43 92 [.slice a6091 l6090.length c6093] :: .row (.slice a6091 l6090.length c6093) 59 3 cs6094 :: .box b32 89 [.slice a23 r19.length c25] :: .row (.slice a23 r19.length c25) 42 3 cs26 :: .box b16 59 [.bool false, .slice none 0 0, .int .i64 0] :: ((dfrs ds4584 ++ L) ++ E)) ∧ f 2 = .pointer (some ⟨b16, 0, none⟩) ∧ f 4 = .pointer (some ⟨b43, 0, none⟩) ∧ f 5 = .pointer (some ⟨b4575, 0, none⟩) ∧ f 10 = .pointer (some ⟨b6541, 0, none⟩)) (fun w => Held w m6085 (.box b6149 59 [.bool r6121.ok, .slice a6145 r6121.tours.length c6147, .int .i64 r6121.takes] :: .box b6154 42 [.slice a6150 r6111.stops.length c6152, .int .i64 r6111.leave, .int .i64 r6111.fin] :: .raw l4598 (.loop (busy q4598)) :: .raw D4598 (.deferred (some [])) :: .box b4595 3 [.int .i64 y4576] :: .box b4575 3 [.int .i64 y4576] :: .box b43 92 [.slice a6091 l6090.length c6093] :: .box b32 89 [.slice a23 r19.length c25] :: .box b16 59 [.bool false, .slice none 0 0, .int .i64 0] :: ((dfrs ds4584 ++ L) ++ E))) mixed rfl ?_ ?_
      ·replace hH6548 := hH6548.drew1
       have hS6549 := hS6495.drew1
       refine d_v (i := 0) rfl (by kernel_rfl) rfl (r_box ty42 (k := 0) (.there .here) rfl rfl rfl (v := .agg #[.slice _ _ _, .int .i64 _, .int .i64 _]) rfl) hH6548 ?_
       refine d_v (i := 2) rfl (by kernel_rfl) rfl (r_fieldAddr fld59_1 (b := _) (o := _) rfl) hH6548 ?_
       refine d_v (i := 3) rfl (by kernel_rfl) rfl (r_box ty36 (k := 1) .here rfl rfl rfl (v := .slice _ _ _) rfl) hH6548 ?_
       refine d_v (i := 5) rfl (by kernel_rfl) rfl (r_fieldAddr fld59_2 (b := _) (o := _) rfl) hH6548 ?_
       refine d_v (i := 6) rfl (by kernel_rfl) rfl (r_box ty3 (k := 2) .here rfl rfl rfl (v := .int .i64 _) rfl) hH6548 ?_
       refine d_v (i := 7) rfl (by kernel_rfl) rfl (r_fieldAddr fld42_2 (b := _) (o := _) rfl) hH6548 ?_
       refine d_v (i := 8) rfl (by kernel_rfl) rfl (r_box ty3 (k := 2) (.there .here) rfl rfl rfl (v := .int .i64 _) rfl) hH6548 ?_
       refine d_v (i := 9) rfl (by kernel_rfl) rfl (r_add (a := _) (b := _) rfl rfl (ok_lo hc6513) (ok_hi hc6513)) hH6548 ?_
       refine d_v (i := 10) rfl (by kernel_rfl) rfl (r_fieldAddr fld42_1 (b := _) (o := _) rfl) hH6548 ?_
       refine d_v (i := 11) rfl (by kernel_rfl) rfl (r_box ty3 (k := 1) (.there .here) rfl rfl rfl (v := .int .i64 _) rfl) hH6548 ?_
       refine d_v (i := 12) rfl (by kernel_rfl) rfl (r_sub (a := _) (b := _) rfl rfl (ok_lo hc6514) (ok_hi hc6514)) hH6548 ?_
       refine d_all (rs := [1, 14]) (by kernel_rfl) (by simp) (fun j hj o ho => ?_)
       simp only [List.mem_cons, List.not_mem_nil, or_false] at hj
       rcases hj with rfl | rfl
       ·cases ho
        refine wl_buildSlice Try.underlying36 ty42 rfl (by decide) (by decide) hS6549 (ps := [(0, [.slice _ _ _, .int .i64 _, .int .i64 _])]) rfl rfl (cs := [.slice _ _ _, .int .i64 _, .int .i64 _]) rfl rfl (by decide) ?_
        intro b6551 w6552 hS6553
        have hrc6554 : RCs 3 RTour m6085 [.slice a6150 r6111.stops.length c6152, .int .i64 r6111.leave, .int .i64 r6111.fin] ([(⟨r6111.stops, r6111.leave, r6111.fin⟩ : Tour)] : List Tour) := (RCs.cons (d := [.slice a6150 r6111.stops.length c6152, .int .i64 r6111.leave, .int .i64 r6111.fin]) rfl ⟨_, _, _, rfl, hr6153⟩ RCs.nil)
        refine wl_nil ?_
        have hH6555 := hS6553.toHeld.mono (Mem.le_refl _) (List.Sublist.subset (.cons _ (.cons_cons _ (.cons_cons _ (.cons_cons _ (.cons_cons _ (.cons_cons _ (.cons_cons _ (.cons_cons _ (.cons _ (.cons_cons _ (.cons _ (.cons_cons _ (.refl _))))))))))))))
        refine ⟨hH6555, ?_⟩
        refine d_all (rs := [4, 14]) (by kernel_rfl) (by simp) (fun j hj o ho => ?_)
        simp only [List.mem_cons, List.not_mem_nil, or_false] at hj
        rcases hj with rfl | rfl
        ·cases ho
         obtain ⟨cs6556, hq6557, hrc6558⟩ := RSl.cells RTour.one (by decide) hr6148 hS6553.toHeld
         refine wl_append_src Try.underlying36 ty42 rfl (by decide) hS6553 (a := _) (nn := _) (c := _) rfl (a2 := _) (k2 := _) (c2 := _) rfl .here hq6557 (lim_b hc6521 rfl) (lim_a hc6521) ?_
         intro a6559 c6560 w6561 hS6562
         have hrc6564 := RCs.append hrc6554 hrc6558
         generalize [.slice a6150 r6111.stops.length c6152, .int .i64 r6111.leave, .int .i64 r6111.fin] ++ cs6556 = cs6565 at hS6562 hrc6564
         refine wl_nil ?_
         have hH6566 := hS6562.toHeld.mono (Mem.le_refl _) (List.Sublist.subset (.cons _ (.cons_cons _ (.cons_cons _ (.cons_cons _ (.cons_cons _ (.cons_cons _ (.cons_cons _ (.cons_cons _ (.cons _ (.cons_cons _ (.cons _ (.cons_cons _ (.refl _))))))))))))))
         refine ⟨hH6566, ?_⟩
         refine d_v (i := 13) rfl (by kernel_rfl) rfl (r_build ty59 st59 (ps := [(0, [.bool _]), (1, [.slice _ _ _]), (2, [.int .i64 _])]) rfl rfl (cs := [.bool _, .slice _ _ _, .int .i64 _]) rfl) hH6566 ?_
         refine d_all (rs := [14]) (by kernel_rfl) (by simp) (fun j hj o ho => ?_)
         obtain rfl : j = 14 := by simpa using hj
         cases ho
         refine wl_alloc ty59 rfl hS6562 ?_
         intro b6567 w6568 hS6569
         refine wl_nil ?_
         have hH6570 := hS6569.toHeld.mono (Mem.le_refl _) (List.Sublist.subset (.cons _ (.cons _ (.cons_cons _ (.cons_cons _ (.cons_cons _ (.cons_cons _ (.cons_cons _ (.cons_cons _ (.cons_cons _ (.cons _ (.cons_cons _ (.cons _ (.cons_cons _ (.refl _)))))))))))))))
         refine ⟨hH6570, ?_⟩
         refine d_all (rs := [15]) (by kernel_rfl) (by simp) (fun j hj o ho => ?_)
         obtain rfl : j = 15 := by simpa using hj
         cases ho
         refine wl_store_box ty59 hS6569 rfl (v := .agg #[.bool _, .slice _ _ _, .int .i64 _]) rfl (vs := [.bool _, .slice _ _ _, .int .i64 _]) rfl rfl rfl .here (cs' := [.bool _, .slice _ _ _, .int .i64 _]) rfl rfl ?_
         intro w6571 hS6572
         refine wl_nil ?_
         have hH6573 := hS6572.toHeld.mono (Mem.le_refl _) (List.Sublist.subset (.cons _ (.cons _ (.cons_cons _ (.cons_cons _ (.cons_cons _ (.cons_cons _ (.cons_cons _ (.cons_cons _ (.cons_cons _ (.cons _ (.cons_cons _ (.cons _ (.cons_cons _ (.refl _)))))))))))))))
         refine ⟨hH6573, ?_⟩
         refine d_end (by kernel_rfl) ?_
         have hS6574 := hS6572.weaken (.cons_cons _ (.cons_cons _ (.cons _ (.cons _ (.cons_cons _ (.cons_cons _ (.cons_cons _ (.cons_cons _ (.cons_cons _ (.cons_cons _ (.cons_cons _ (.cons_cons _ (.cons_cons _ (.refl _))))))))))))))
         exact ⟨_, _, _, _, _, row_n (hS6574.toHeld.own (.there .here)) hrc6564 (by decide), hrc6564, hS6574, rfl, rfl, rfl, rfl⟩
        ·cases ho
         refine wl_alloc ty59 rfl hS6553 ?_
         intro b6575 w6576 hS6577
         refine wl_nil ?_
         have hH6578 := hS6577.toHeld.mono (Mem.le_refl _) (List.Sublist.subset (.cons _ (.cons _ (.cons_cons _ (.cons_cons _ (.cons_cons _ (.cons_cons _ (.cons_cons _ (.cons_cons _ (.cons_cons _ (.cons _ (.cons_cons _ (.cons _ (.cons_cons _ (.refl _)))))))))))))))
         refine ⟨hH6578, ?_⟩
         refine d_all (rs := [4]) (by kernel_rfl) (by simp) (fun j hj o ho => ?_)
         obtain rfl : j = 4 := by simpa using hj
         cases ho
         obtain ⟨cs6579, hq6580, hrc6581⟩ := RSl.cells RTour.one (by decide) hr6148 hS6577.toHeld
         refine wl_append_src Try.underlying36 ty42 rfl (by decide) hS6577 (a := _) (nn := _) (c := _) rfl (a2 := _) (k2 := _) (c2 := _) rfl (.there .here) hq6580 (lim_b hc6521 rfl) (lim_a hc6521) ?_
         intro a6582 c6583 w6584 hS6585
         have hrc6587 := RCs.append hrc6554 hrc6581
         generalize [.slice a6150 r6111.stops.length c6152, .int .i64 r6111.leave, .int .i64 r6111.fin] ++ cs6579 = cs6588 at hS6585 hrc6587
         refine wl_nil ?_
         have hH6589 := hS6585.toHeld.mono (Mem.le_refl _) (List.Sublist.subset (.cons _ (.cons _ (.cons_cons _ (.cons_cons _ (.cons_cons _ (.cons_cons _ (.cons_cons _ (.cons_cons _ (.cons_cons _ (.cons _ (.cons_cons _ (.cons _ (.cons_cons _ (.refl _)))))))))))))))
         refine ⟨hH6589, ?_⟩
         refine d_v (i := 13) rfl (by kernel_rfl) rfl (r_build ty59 st59 (ps := [(0, [.bool _]), (1, [.slice _ _ _]), (2, [.int .i64 _])]) rfl rfl (cs := [.bool _, .slice _ _ _, .int .i64 _]) rfl) hH6589 ?_
         refine d_all (rs := [15]) (by kernel_rfl) (by simp) (fun j hj o ho => ?_)
         obtain rfl : j = 15 := by simpa using hj
         cases ho
         refine wl_store_box ty59 hS6585 rfl (v := .agg #[.bool _, .slice _ _ _, .int .i64 _]) rfl (vs := [.bool _, .slice _ _ _, .int .i64 _]) rfl rfl rfl (.there .here) (cs' := [.bool _, .slice _ _ _, .int .i64 _]) rfl rfl ?_
         intro w6590 hS6591
         refine wl_nil ?_
         have hH6592 := hS6591.toHeld.mono (Mem.le_refl _) (List.Sublist.subset (.cons _ (.cons _ (.cons_cons _ (.cons_cons _ (.cons_cons _ (.cons_cons _ (.cons_cons _ (.cons_cons _ (.cons_cons _ (.cons _ (.cons_cons _ (.cons _ (.cons_cons _ (.refl _)))))))))))))))
         refine ⟨hH6592, ?_⟩
         refine d_end (by kernel_rfl) ?_
         have hS6593 := hS6591.weaken (.cons_cons _ (.cons_cons _ (.cons _ (.cons _ (.cons_cons _ (.cons_cons _ (.cons_cons _ (.cons_cons _ (.cons_cons _ (.cons_cons _ (.cons_cons _ (.cons_cons _ (.cons_cons _ (.refl _))))))))))))))
         have hS6594 := hS6593.front (.there (.there (.there (.there (.there (.there (.there (.there (.there (.there .here))))))))))
         have hS6595 := hS6594.front (.there (.there (.there (.there (.there (.there (.there (.there (.there (.there .here))))))))))
         have hS6596 := hS6595.front (.there (.there (.there (.there (.there (.there (.there (.there (.there (.there .here))))))))))
         have hS6597 := hS6596.front (.there (.there (.there (.there (.there (.there (.there (.there (.there (.there .here))))))))))
         have hS6598 := hS6597.front (.there (.there (.there (.there (.there (.there (.there (.there (.there (.there .here))))))))))
         have hS6599 := hS6598.front (.there (.there (.there (.there (.there (.there (.there (.there (.there (.there .here))))))))))
         have hS6600 := hS6599.front (.there (.there (.there (.there (.there (.there (.there (.there (.there (.there .here))))))))))
         have hS6601 := hS6600.front (.there (.there (.there (.there (.there (.there (.there (.there (.there (.there .here))))))))))
         have hS6602 := hS6601.front (.there (.there (.there (.there (.there (.there (.there (.there (.there (.there .here))))))))))
         have hS6603 := hS6602.front (.there (.there (.there (.there (.there (.there (.there (.there (.there .here)))))))))
         have hS6604 := hS6603.front (.there (.there (.there (.there (.there (.there (.there (.there (.there (.there .here))))))))))
         exact ⟨_, _, _, _, _, row_n (hS6604.toHeld.own (.there .here)) hrc6587 (by decide), hrc6587, hS6604, rfl, rfl, rfl, rfl⟩
       ·cases ho
        refine wl_alloc ty59 rfl hS6549 ?_
        intro b6605 w6606 hS6607
        refine wl_nil ?_
        have hH6608 := hS6607.toHeld.mono (Mem.le_refl _) (List.Sublist.subset (.cons _ (.cons_cons _ (.cons_cons _ (.cons_cons _ (.cons_cons _ (.cons_cons _ (.cons_cons _ (.cons_cons _ (.cons _ (.cons_cons _ (.cons _ (.cons_cons _ (.refl _))))))))))))))
        refine ⟨hH6608, ?_⟩
        refine d_all (rs := [1]) (by kernel_rfl) (by simp) (fun j hj o ho => ?_)
        obtain rfl : j = 1 := by simpa using hj
        cases ho
        refine wl_buildSlice Try.underlying36 ty42 rfl (by decide) (by decide) hS6607 (ps := [(0, [.slice _ _ _, .int .i64 _, .int .i64 _])]) rfl rfl (cs := [.slice _ _ _, .int .i64 _, .int .i64 _]) rfl rfl (by decide) ?_
        intro b6610 w6611 hS6612
        have hrc6613 : RCs 3 RTour m6085 [.slice a6150 r6111.stops.length c6152, .int .i64 r6111.leave, .int .i64 r6111.fin] ([(⟨r6111.stops, r6111.leave, r6111.fin⟩ : Tour)] : List Tour) := (RCs.cons (d := [.slice a6150 r6111.stops.length c6152, .int .i64 r6111.leave, .int .i64 r6111.fin]) rfl ⟨_, _, _, rfl, hr6153⟩ RCs.nil)
        refine wl_nil ?_
        have hH6614 := hS6612.toHeld.mono (Mem.le_refl _) (List.Sublist.subset (.cons _ (.cons _ (.cons_cons _ (.cons_cons _ (.cons_cons _ (.cons_cons _ (.cons_cons _ (.cons_cons _ (.cons_cons _ (.cons _ (.cons_cons _ (.cons _ (.cons_cons _ (.refl _)))))))))))))))
        refine ⟨hH6614, ?_⟩
        refine d_all (rs := [4]) (by kernel_rfl) (by simp) (fun j hj o ho => ?_)
        obtain rfl : j = 4 := by simpa using hj
        cases ho
        obtain ⟨cs6615, hq6616, hrc6617⟩ := RSl.cells RTour.one (by decide) hr6148 hS6612.toHeld
        refine wl_append_src Try.underlying36 ty42 rfl (by decide) hS6612 (a := _) (nn := _) (c := _) rfl (a2 := _) (k2 := _) (c2 := _) rfl .here hq6616 (lim_b hc6521 rfl) (lim_a hc6521) ?_
        intro a6618 c6619 w6620 hS6621
        have hrc6623 := RCs.append hrc6613 hrc6617
        generalize [.slice a6150 r6111.stops.length c6152, .int .i64 r6111.leave, .int .i64 r6111.fin] ++ cs6615 = cs6624 at hS6621 hrc6623
        refine wl_nil ?_
        have hH6625 := hS6621.toHeld.mono (Mem.le_refl _) (List.Sublist.subset (.cons _ (.cons _ (.cons_cons _ (.cons_cons _ (.cons_cons _ (.cons_cons _ (.cons_cons _ (.cons_cons _ (.cons_cons _ (.cons _ (.cons_cons _ (.cons _ (.cons_cons _ (.refl _)))))))))))))))
        refine ⟨hH6625, ?_⟩
        refine d_v (i := 13) rfl (by kernel_rfl) rfl (r_build ty59 st59 (ps := [(0, [.bool _]), (1, [.slice _ _ _]), (2, [.int .i64 _])]) rfl rfl (cs := [.bool _, .slice _ _ _, .int .i64 _]) rfl) hH6625 ?_
        refine d_all (rs := [15]) (by kernel_rfl) (by simp) (fun j hj o ho => ?_)
        obtain rfl : j = 15 := by simpa using hj
        cases ho
        refine wl_store_box ty59 hS6621 rfl (v := .agg #[.bool _, .slice _ _ _, .int .i64 _]) rfl (vs := [.bool _, .slice _ _ _, .int .i64 _]) rfl rfl rfl (.there .here) (cs' := [.bool _, .slice _ _ _, .int .i64 _]) rfl rfl ?_
        intro w6626 hS6627
        refine wl_nil ?_
        have hH6628 := hS6627.toHeld.mono (Mem.le_refl _) (List.Sublist.subset (.cons _ (.cons _ (.cons_cons _ (.cons_cons _ (.cons_cons _ (.cons_cons _ (.cons_cons _ (.cons_cons _ (.cons_cons _ (.cons _ (.cons_cons _ (.cons _ (.cons_cons _ (.refl _)))))))))))))))
        refine ⟨hH6628, ?_⟩
        refine d_end (by kernel_rfl) ?_
        have hS6629 := hS6627.weaken (.cons_cons _ (.cons_cons _ (.cons _ (.cons _ (.cons_cons _ (.cons_cons _ (.cons_cons _ (.cons_cons _ (.cons_cons _ (.cons_cons _ (.cons_cons _ (.cons_cons _ (.cons_cons _ (.refl _))))))))))))))
        have hS6630 := hS6629.front (.there (.there (.there (.there (.there (.there (.there (.there (.there (.there .here))))))))))
        have hS6631 := hS6630.front (.there (.there (.there (.there (.there (.there (.there (.there (.there (.there .here))))))))))
        have hS6632 := hS6631.front (.there (.there (.there (.there (.there (.there (.there (.there (.there (.there .here))))))))))
        have hS6633 := hS6632.front (.there (.there (.there (.there (.there (.there (.there (.there (.there (.there .here))))))))))
        have hS6634 := hS6633.front (.there (.there (.there (.there (.there (.there (.there (.there (.there (.there .here))))))))))
        have hS6635 := hS6634.front (.there (.there (.there (.there (.there (.there (.there (.there (.there (.there .here))))))))))
        have hS6636 := hS6635.front (.there (.there (.there (.there (.there (.there (.there (.there (.there (.there .here))))))))))
        have hS6637 := hS6636.front (.there (.there (.there (.there (.there (.there (.there (.there (.there (.there .here))))))))))
        have hS6638 := hS6637.front (.there (.there (.there (.there (.there (.there (.there (.there (.there (.there .here))))))))))
        have hS6639 := hS6638.front (.there (.there (.there (.there (.there (.there (.there (.there (.there .here)))))))))
        have hS6640 := hS6639.front (.there (.there (.there (.there (.there (.there (.there (.there (.there (.there .here))))))))))
        exact ⟨_, _, _, _, _, row_n (hS6640.toHeld.own (.there .here)) hrc6623 (by decide), hrc6623, hS6640, rfl, rfl, rfl, rfl⟩
      ·rintro f6646 w6647 ⟨b6541, a6542, n6543, c6544, cs6545, hn6546, hrc6547, hS6641, e6642, e6643, e6644, e6645⟩
       subst hn6546
       refine c_know (t := 2) e6642 <| c_know (t := 4) e6643 <| c_know (t := 5) e6644 <| c_know (t := 10) e6645 ?_
       clear e6642 e6643 e6644 e6645
       refine c_seq ?_
       have hH6762 := (hS6641.weaken (.cons_cons _ (.cons_cons _ (.cons_cons _ (.cons_cons _ (.cons_cons _ (.cons_cons _ (.cons _ (.cons _ (.cons_cons _ (.cons_cons _ (.cons_cons _ (.refl _))))))))))))).toHeld
       refine c_draw (k := 14) (fun w => Held w m6085 (.box b6541 59 [.bool true, .slice a6542 ((([(⟨r6111.stops, r6111.leave, r6111.fin⟩ : Tour)] ++ r6121.tours)).length) c6544, .int .i64 ((r6121.takes + r6111.fin) - r6111.leave)] :: .row (.slice a6542 ((([(⟨r6111.stops, r6111.leave, r6111.fin⟩ : Tour)] ++ r6121.tours)).length) c6544) 42 3 cs6545 :: .raw l4598 (.loop (busy q4598)) :: .raw D4598 (.deferred (some [])) :: .box b4595 3 [.int .i64 y4576] :: .box b4575 3 [.int .i64 y4576] :: .box b32 89 [.slice a23 r19.length c25] :: .row (.slice a23 r19.length c25) 42 3 cs26 :: .box b16 59 [.bool false, .slice none 0 0, .int .i64 0] :: ((dfrs ds4584 ++ L) ++ E))) mixed rfl ?_
       replace hH6762 := hH6762.drew1
       have hS6763 := hS6641.drew1
       refine d_v (i := 1) rfl (by kernel_rfl) rfl (r_box ty3 (k := 0) (.there (.there (.there (.there (.there .here))))) rfl rfl rfl (v := .int .i64 _) rfl) hH6762 ?_
       refine d_all (rs := [0]) (by kernel_rfl) (by simp) (fun j hj o ho => ?_)
       obtain rfl : j = 0 := by simpa using hj
       cases ho
       refine wl_h hS6763.toHeld (r_box ty92 (k := 0) (.there (.there (.there (.there (.there (.there .here)))))) rfl rfl rfl (v := .slice _ _ _) rfl) <| wl_nil ?_
       have hH6764 := hS6763.toHeld.mono (Mem.le_refl _) (List.Sublist.subset (.cons_cons _ (.cons_cons _ (.cons_cons _ (.cons_cons _ (.cons_cons _ (.cons_cons _ (.cons _ (.cons _ (.cons_cons _ (.cons_cons _ (.cons_cons _ (.refl _)))))))))))))
       refine ⟨hH6764, ?_⟩
       obtain ⟨x6765, hx6766, h6767, h6768, hM⟩ := getK_ok hM
       obtain ⟨b6769, rfl⟩ := row_some (hS6763.toHeld.own (.there (.there (.there (.there (.there (.there (.there .here)))))))) hrc6096 (by decide) h6767 h6768
       obtain ⟨es6770, hes6771, hR6772⟩ := row_read hrc6096 hx6766
       have hk6777 := hR6772
       obtain ⟨a6773, n6774, c6775, rfl, hr6776⟩ := hR6772
       have hr6778 := Fresh.rsl hr6776
       obtain rfl := hr6778.1
       refine d_v (i := 2) rfl (by kernel_rfl) rfl (r_indexAddr Try.underlying92 ty59 (b := _) (o := _) (n := _) (c := _) (i := y4576) rfl rfl h6767 (row_lt (hS6763.toHeld.own (.there (.there (.there (.there (.there (.there (.there .here)))))))) hrc6096 (by decide) h6768)) hH6764 ?_
       refine d_v (i := 3) rfl (by kernel_rfl) rfl (r_fieldAddr fld59_0 (b := _) (o := _) rfl) hH6764 ?_
       refine d_all (rs := [4]) (by kernel_rfl) (by simp) (fun j hj o ho => ?_)
       obtain rfl : j = 4 := by simpa using hj
       cases ho
       refine wl_h hS6763.toHeld (r_row ty4 (k := 0) (i := y4576.toNat) (.there (.there (.there (.there (.there (.there (.there .here))))))) rfl rfl (row_room hrc6096 hx6766) hes6771 rfl (v := .bool _) rfl) <| wl_nil ?_
       have hH6779 := hS6763.toHeld.mono (Mem.le_refl _) (List.Sublist.subset (.cons_cons _ (.cons_cons _ (.cons_cons _ (.cons_cons _ (.cons_cons _ (.cons_cons _ (.cons _ (.cons _ (.cons_cons _ (.cons_cons _ (.cons_cons _ (.refl _)))))))))))))
       refine ⟨hH6779, ?_⟩
       refine d_v (i := 5) rfl (by kernel_rfl) rfl (r_not (b := _) rfl) hH6779 ?_
       refine d_v (i := 6) rfl (by kernel_rfl) rfl (r_move (v := .bool _) rfl) hH6779 ?_
       refine d_split (t := 64) (c := _) rfl (fun h6780 => ?_) (fun h6780 => ?_)
       ·replace hM := bif_t h6780 hM
        refine d_off (i := 7) rfl (by kernel_rfl) rfl (t := 64) (b := true) rfl rfl rfl hH6779 ?_
        refine d_off (i := 8) rfl (by kernel_rfl) rfl (t := 64) (b := true) rfl rfl rfl hH6779 ?_
        refine d_off (i := 9) rfl (by kernel_rfl) rfl (t := 64) (b := true) rfl rfl rfl hH6779 ?_
        refine d_off (i := 10) rfl (by kernel_rfl) rfl (t := 64) (b := true) rfl rfl rfl hH6779 ?_
        refine d_off (i := 11) rfl (by kernel_rfl) rfl (t := 64) (b := true) rfl rfl rfl hH6779 ?_
        refine d_off (i := 12) rfl (by kernel_rfl) rfl (t := 64) (b := true) rfl rfl rfl hH6779 ?_
        refine d_v (i := 13) rfl (by kernel_rfl) rfl (r_pick_t rfl (v := .bool _) rfl) hH6779 ?_
        refine d_end (by kernel_rfl) ?_
        refine c_true rfl <| c_region <| wl_h hS6763.toHeld (r_box ty92 (k := 0) (.there (.there (.there (.there (.there (.there .here)))))) rfl rfl rfl (v := .slice _ _ _) rfl) <| wl_h hS6763.toHeld (r_box ty3 (k := 0) (.there (.there (.there (.there (.there .here))))) rfl rfl rfl (v := .int .i64 _) rfl) <| wl_h hS6763.toHeld (r_box ty59 (k := 0) .here rfl rfl rfl (v := .agg #[.bool _, .slice _ _ _, .int .i64 _]) rfl) ?_
        obtain ⟨x6781, hx6782, h6783, h6784, hM⟩ := getK_ok hM
        obtain ⟨es6785, hes6786, hR6787⟩ := row_read hrc6096 hx6782
        have hk6792 := hR6787
        obtain ⟨a6788, n6789, c6790, rfl, hr6791⟩ := hR6787
        have hr6793 := Fresh.rsl hr6791
        obtain rfl := hr6793.1
        refine wl_h hS6763.toHeld (r_indexAddr Try.underlying92 ty59 (b := _) (o := _) (n := _) (c := _) (i := y4576) rfl rfl h6783 (row_lt (hS6763.toHeld.own (.there (.there (.there (.there (.there (.there (.there .here)))))))) hrc6096 (by decide) h6784)) ?_
        obtain ⟨m6794, hm6795, hS6796, hF6798⟩ := hS6763.freezeF (.there .here) hrc6547 RTour.mono (by decide) le6087
        have hr6797 := Fresh.rsl hF6798
        have le6799 := Mem.le_trans le6087 hm6795
        have le6800 := Mem.le_trans le6088 hm6795
        have le6801 := Mem.le_trans le6089 hm6795
        have le6802 := hm6795
        replace hk12 := RFleet.mono _ _ _ _ hk12 hm6795
        replace hr7 := RSl.mono RStop.mono hr7 hm6795
        replace hr11 := RSl.mono (RS.mono RInt.mono) hr11 hm6795
        replace hrc27 := RCs.mono RTour.mono hrc27 hm6795
        replace hrc42 := RCs.mono RPlanF.mono hrc42 hm6795
        replace hk59 := RPlanF.mono _ _ _ _ hk59 hm6795
        replace hr58 := Fresh.mono RTour.mono hr58 hm6795
        replace hr60 := RSl.mono RTour.mono hr60 hm6795
        replace hrc63 := RCs.mono RPlanF.mono hrc63 hm6795
        replace hrc4583 := RCs.mono RPlanF.mono hrc4583 hm6795
        replace hrc6096 := RCs.mono RPlanF.mono hrc6096 hm6795
        replace hr6148 := RSl.mono RTour.mono hr6148 hm6795
        replace hr6153 := RSl.mono RInt.mono hr6153 hm6795
        replace hrc6547 := RCs.mono RTour.mono hrc6547 hm6795
        replace hk6777 := RPlanF.mono _ _ _ _ hk6777 hm6795
        replace hr6776 := Fresh.mono RTour.mono hr6776 hm6795
        replace hr6778 := RSl.mono RTour.mono hr6778 hm6795
        replace hk6792 := RPlanF.mono _ _ _ _ hk6792 hm6795
        replace hr6791 := Fresh.mono RTour.mono hr6791 hm6795
        replace hr6793 := RSl.mono RTour.mono hr6793 hm6795
        refine wl_store_row ty59 hS6796 rfl (v := .agg #[.bool _, .slice _ _ _, .int .i64 _]) rfl (vs := [.bool _, .slice _ _ _, .int .i64 _]) rfl rfl rfl (.there (.there (.there (.there (.there (.there .here)))))) (Nat.le_trans (by simp only [Nat.zero_add]; omega) (row_room hrc6096 hx6782)) ?_
        intro w6803 hS6804
        have hrc6805 := RCs.seti hrc6096 hx6782 (vs := [.bool true, .slice a6542 ((([(⟨r6111.stops, r6111.leave, r6111.fin⟩ : Tour)] ++ r6121.tours)).length) c6544, .int .i64 ((r6121.takes + r6111.fin) - r6111.leave)]) (y := (⟨true, ([(⟨r6111.stops, r6111.leave, r6111.fin⟩ : Tour)] ++ r6121.tours), (r6121.takes + r6111.fin) - r6111.leave⟩ : Plan)) rfl ⟨_, _, _, rfl, hF6798⟩
        generalize spl cs6094 (0 + y4576.toNat * 3) [.bool true, .slice a6542 ((([(⟨r6111.stops, r6111.leave, r6111.fin⟩ : Tour)] ++ r6121.tours)).length) c6544, .int .i64 ((r6121.takes + r6111.fin) - r6111.leave)] = cs6806 at hS6804 hrc6805
        refine wl_nil <| c_nil <| q_norm <| c_nil ?_
        have hS6807 := hS6804.weaken (.cons _ (.cons_cons _ (.cons_cons _ (.cons_cons _ (.cons_cons _ (.cons_cons _ (.cons_cons _ (.cons_cons _ (.cons_cons _ (.cons_cons _ (.refl _)))))))))))
        obtain rfl := some_eq hM
        refine ⟨_, _, hS6807, fun w6808 hS6809 => ?_⟩
        exact ⟨rfl, ⟨m6794, (some ⟨b6769, 0, none⟩), l6090.length, c6093, cs6806⟩, ⟨le6801, row_n (hS6807.toHeld.own (.there (.there (.there (.there (.there .here)))))) hrc6805 (by decide), hrc6805⟩, hS6809⟩
       ·replace hM := bif_f h6780 hM
        refine d_on (i := 7) rfl (by kernel_rfl) rfl (t := 64) rfl rfl (r_box ty59 (k := 0) .here rfl rfl rfl (v := .agg #[.bool _, .slice _ _ _, .int .i64 _]) rfl) hH6779 ?_
        refine d_on (i := 9) rfl (by kernel_rfl) rfl (t := 64) rfl rfl (r_box ty3 (k := 0) (.there (.there (.there (.there (.there .here))))) rfl rfl rfl (v := .int .i64 _) rfl) hH6779 ?_
        refine d_all (rs := [8]) (by kernel_rfl) (by simp) (fun j hj o ho => ?_)
        obtain rfl : j = 8 := by simpa using hj
        cases ho
        refine wl_on (t := 64) rfl rfl ?_
        refine wl_h hS6763.toHeld (r_box ty92 (k := 0) (.there (.there (.there (.there (.there (.there .here)))))) rfl rfl rfl (v := .slice _ _ _) rfl) <| wl_nil ?_
        have hH6810 := hS6763.toHeld.mono (Mem.le_refl _) (List.Sublist.subset (.cons_cons _ (.cons_cons _ (.cons_cons _ (.cons_cons _ (.cons_cons _ (.cons_cons _ (.cons _ (.cons _ (.cons_cons _ (.cons_cons _ (.cons_cons _ (.refl _)))))))))))))
        refine ⟨hH6810, ?_⟩
        obtain ⟨x6811, hx6812, h6813, h6814, hM⟩ := getK_ok hM
        obtain ⟨es6815, hes6816, hR6817⟩ := row_read hrc6096 hx6812
        have hk6822 := hR6817
        obtain ⟨a6818, n6819, c6820, rfl, hr6821⟩ := hR6817
        have hr6823 := Fresh.rsl hr6821
        obtain rfl := hr6823.1
        refine d_on (i := 10) rfl (by kernel_rfl) rfl (t := 64) rfl rfl (r_indexAddr Try.underlying92 ty59 (b := _) (o := _) (n := _) (c := _) (i := y4576) rfl rfl h6813 (row_lt (hS6763.toHeld.own (.there (.there (.there (.there (.there (.there (.there .here)))))))) hrc6096 (by decide) h6814)) hH6810 ?_
        refine d_all (rs := [11]) (by kernel_rfl) (by simp) (fun j hj o ho => ?_)
        obtain rfl : j = 11 := by simpa using hj
        cases ho
        refine wl_on (t := 64) rfl rfl ?_
        refine wl_h hS6763.toHeld (r_row ty59 (k := 0) (i := y4576.toNat) (.there (.there (.there (.there (.there (.there (.there .here))))))) rfl rfl (row_room hrc6096 hx6812) hes6816 rfl (v := .agg #[.bool _, .slice _ _ _, .int .i64 _]) rfl) <| wl_nil ?_
        have hH6824 := hS6763.toHeld.mono (Mem.le_refl _) (List.Sublist.subset (.cons_cons _ (.cons_cons _ (.cons_cons _ (.cons_cons _ (.cons_cons _ (.cons_cons _ (.cons _ (.cons _ (.cons_cons _ (.cons_cons _ (.cons_cons _ (.refl _)))))))))))))
        refine ⟨hH6824, ?_⟩
        refine d_all (rs := [12]) (by kernel_rfl) (by simp) (fun j hj o ho => ?_)
        obtain rfl : j = 12 := by simpa using hj
        cases ho
        refine wl_on (t := 64) rfl rfl ?_
        obtain ⟨m6825, hm6826, hS6827, hr6828, back6829⟩ := hS6763.lend (.there .here) hrc6547 RTour.mono (by decide)
        have le6830 := hm6826
        have hrc6831 := RCs.mono RPlanF.mono hrc6096 hm6826
        have hrc6832 := RCs.mono RTour.mono hrc27 hm6826
        obtain ⟨r6833, hq6834, hM⟩ := bnd_ok hM
        refine wl_call ent37 (vals := [.agg #[.bool _, .slice _ _ _, .int .i64 _], .agg #[.bool _, .slice _ _ _, .int .i64 _]]) rfl (cg37 hS6827 (show RPlan _ _ (⟨true, ([(⟨r6111.stops, r6111.leave, r6111.fin⟩ : Tour)] ++ r6121.tours), (r6121.takes + r6111.fin) - r6111.leave⟩ : Plan) from ⟨_, _, _, rfl, hr6828⟩) (RPlan.mono _ _ _ _ ⟨_, _, _, rfl, hr6823⟩ le6830) hq6834) ?_
        rintro _ w6836 ⟨rfl, hS6837⟩
        have hS6838 := back6829 _ _ hS6837
        refine wl_nil ?_
        have hS6840 := hS6838.front (.there (.there (.there (.there (.there (.there (.there (.there (.there (.there .here))))))))))
        have hS6841 := hS6840.front (.there (.there (.there (.there (.there (.there (.there (.there (.there (.there .here))))))))))
        have hS6842 := hS6841.front (.there (.there (.there (.there (.there (.there (.there (.there (.there (.there .here))))))))))
        have hS6843 := hS6842.front (.there (.there (.there (.there (.there (.there (.there (.there .here))))))))
        have hS6844 := hS6843.front (.there (.there (.there (.there (.there (.there (.there (.there .here))))))))
        have hS6845 := hS6844.front (.there (.there (.there (.there (.there (.there (.there (.there .here))))))))
        have hS6846 := hS6845.front (.there (.there (.there (.there (.there (.there (.there (.there .here))))))))
        have hS6847 := hS6846.front (.there (.there (.there (.there (.there (.there (.there .here)))))))
        have hS6848 := hS6847.front (.there (.there (.there (.there (.there (.there (.there (.there .here))))))))
        have hH6839 := hS6848.toHeld.mono (Mem.le_refl _) (List.Sublist.subset (.cons_cons _ (.cons_cons _ (.cons_cons _ (.cons_cons _ (.cons_cons _ (.cons_cons _ (.cons_cons _ (.cons_cons _ (.cons_cons _ (.cons _ (.cons _ (.refl _)))))))))))))
        refine ⟨hH6839, ?_⟩
        refine d_v (i := 13) rfl (by kernel_rfl) rfl (r_pick_f rfl (v := .bool _) rfl) hH6839 ?_
        refine d_end (by kernel_rfl) ?_
        refine c_cond (c := _) rfl (fun h6849 => ?_) (fun h6849 => ?_)
        ·replace hM := bif_t h6849 hM
         refine c_region <| wl_h hS6848.toHeld (r_box ty92 (k := 0) (.there (.there (.there (.there (.there (.there (.there (.there (.there .here))))))))) rfl rfl rfl (v := .slice _ _ _) rfl) <| wl_h hS6848.toHeld (r_box ty3 (k := 0) (.there (.there (.there (.there (.there .here))))) rfl rfl rfl (v := .int .i64 _) rfl) <| wl_h hS6848.toHeld (r_box ty59 (k := 0) .here rfl rfl rfl (v := .agg #[.bool _, .slice _ _ _, .int .i64 _]) rfl) ?_
         obtain ⟨x6850, hx6851, h6852, h6853, hM⟩ := getK_ok hM
         obtain ⟨es6854, hes6855, hR6856⟩ := row_read hrc6096 hx6851
         have hk6861 := hR6856
         obtain ⟨a6857, n6858, c6859, rfl, hr6860⟩ := hR6856
         have hr6862 := Fresh.rsl hr6860
         obtain rfl := hr6862.1
         refine wl_h hS6848.toHeld (r_indexAddr Try.underlying92 ty59 (b := _) (o := _) (n := _) (c := _) (i := y4576) rfl rfl h6852 (row_lt (hS6848.toHeld.own (.there (.there (.there (.there (.there (.there (.there (.there (.there (.there .here))))))))))) hrc6096 (by decide) h6853)) ?_
         obtain ⟨m6863, hm6864, hS6865, hF6867⟩ := hS6848.freezeF (.there .here) hrc6547 RTour.mono (by decide) le6087
         have hr6866 := Fresh.rsl hF6867
         have le6868 := Mem.le_trans le6087 hm6864
         have le6869 := Mem.le_trans le6088 hm6864
         have le6870 := Mem.le_trans le6089 hm6864
         have le6871 := hm6864
         replace hk12 := RFleet.mono _ _ _ _ hk12 hm6864
         replace hr7 := RSl.mono RStop.mono hr7 hm6864
         replace hr11 := RSl.mono (RS.mono RInt.mono) hr11 hm6864
         replace hrc27 := RCs.mono RTour.mono hrc27 hm6864
         replace hrc42 := RCs.mono RPlanF.mono hrc42 hm6864
         replace hk59 := RPlanF.mono _ _ _ _ hk59 hm6864
         replace hr58 := Fresh.mono RTour.mono hr58 hm6864
         replace hr60 := RSl.mono RTour.mono hr60 hm6864
         replace hrc63 := RCs.mono RPlanF.mono hrc63 hm6864
         replace hrc4583 := RCs.mono RPlanF.mono hrc4583 hm6864
         replace hrc6096 := RCs.mono RPlanF.mono hrc6096 hm6864
         replace hr6148 := RSl.mono RTour.mono hr6148 hm6864
         replace hr6153 := RSl.mono RInt.mono hr6153 hm6864
         replace hrc6547 := RCs.mono RTour.mono hrc6547 hm6864
         replace hk6777 := RPlanF.mono _ _ _ _ hk6777 hm6864
         replace hr6776 := Fresh.mono RTour.mono hr6776 hm6864
         replace hr6778 := RSl.mono RTour.mono hr6778 hm6864
         replace hk6822 := RPlanF.mono _ _ _ _ hk6822 hm6864
         replace hr6821 := Fresh.mono RTour.mono hr6821 hm6864
         replace hr6823 := RSl.mono RTour.mono hr6823 hm6864
         replace hk6861 := RPlanF.mono _ _ _ _ hk6861 hm6864
         replace hr6860 := Fresh.mono RTour.mono hr6860 hm6864
         replace hr6862 := RSl.mono RTour.mono hr6862 hm6864
         refine wl_store_row ty59 hS6865 rfl (v := .agg #[.bool _, .slice _ _ _, .int .i64 _]) rfl (vs := [.bool _, .slice _ _ _, .int .i64 _]) rfl rfl rfl (.there (.there (.there (.there (.there (.there (.there (.there (.there .here))))))))) (Nat.le_trans (by simp only [Nat.zero_add]; omega) (row_room hrc6096 hx6851)) ?_
         intro w6872 hS6873
         have hrc6874 := RCs.seti hrc6096 hx6851 (vs := [.bool true, .slice a6542 ((([(⟨r6111.stops, r6111.leave, r6111.fin⟩ : Tour)] ++ r6121.tours)).length) c6544, .int .i64 ((r6121.takes + r6111.fin) - r6111.leave)]) (y := (⟨true, ([(⟨r6111.stops, r6111.leave, r6111.fin⟩ : Tour)] ++ r6121.tours), (r6121.takes + r6111.fin) - r6111.leave⟩ : Plan)) rfl ⟨_, _, _, rfl, hF6867⟩
         generalize spl cs6094 (0 + y4576.toNat * 3) [.bool true, .slice a6542 ((([(⟨r6111.stops, r6111.leave, r6111.fin⟩ : Tour)] ++ r6121.tours)).length) c6544, .int .i64 ((r6121.takes + r6111.fin) - r6111.leave)] = cs6875 at hS6873 hrc6874
         refine wl_nil <| c_nil <| q_norm <| c_nil ?_
         have hS6876 := hS6873.weaken (.cons _ (.cons_cons _ (.cons_cons _ (.cons_cons _ (.cons_cons _ (.cons_cons _ (.cons_cons _ (.cons_cons _ (.cons_cons _ (.cons_cons _ (.refl _)))))))))))
         have hS6877 := hS6876.front (.there (.there (.there (.there (.there (.there .here))))))
         have hS6878 := hS6877.front (.there (.there (.there (.there (.there (.there .here))))))
         have hS6879 := hS6878.front (.there (.there (.there (.there (.there (.there .here))))))
         have hS6880 := hS6879.front (.there (.there (.there (.there (.there (.there (.there (.there .here))))))))
         have hS6881 := hS6880.front (.there (.there (.there (.there (.there (.there (.there (.there .here))))))))
         have hS6882 := hS6881.front (.there (.there (.there (.there (.there (.there (.there (.there .here))))))))
         have hS6883 := hS6882.front (.there (.there (.there (.there (.there (.there (.there (.there .here))))))))
         have hS6884 := hS6883.front (.there (.there (.there (.there (.there (.there (.there (.there .here))))))))
         have hS6885 := hS6884.front (.there (.there (.there (.there (.there (.there (.there (.there .here))))))))
         obtain rfl := some_eq hM
         refine ⟨_, _, hS6885, fun w6886 hS6887 => ?_⟩
         exact ⟨rfl, ⟨m6863, (some ⟨b6769, 0, none⟩), l6090.length, c6093, cs6875⟩, ⟨le6870, row_n (hS6885.toHeld.own (.there (.there (.there (.there (.there .here)))))) hrc6874 (by decide), hrc6874⟩, hS6887⟩
        ·replace hM := bif_f h6849 hM
         refine c_skip <| c_nil <| q_norm <| c_nil ?_
         have hS6888 := hS6848.weaken (.cons _ (.cons _ (.cons_cons _ (.cons_cons _ (.cons_cons _ (.cons_cons _ (.cons_cons _ (.cons_cons _ (.cons_cons _ (.cons_cons _ (.cons_cons _ (.refl _))))))))))))
         have hS6889 := hS6888.front (.there (.there (.there (.there (.there (.there .here))))))
         have hS6890 := hS6889.front (.there (.there (.there (.there (.there (.there .here))))))
         have hS6891 := hS6890.front (.there (.there (.there (.there (.there (.there .here))))))
         have hS6892 := hS6891.front (.there (.there (.there (.there (.there (.there (.there (.there .here))))))))
         have hS6893 := hS6892.front (.there (.there (.there (.there (.there (.there (.there (.there .here))))))))
         have hS6894 := hS6893.front (.there (.there (.there (.there (.there (.there (.there (.there .here))))))))
         have hS6895 := hS6894.front (.there (.there (.there (.there (.there (.there (.there (.there .here))))))))
         have hS6896 := hS6895.front (.there (.there (.there (.there (.there (.there (.there (.there .here))))))))
         have hS6897 := hS6896.front (.there (.there (.there (.there (.there (.there (.there (.there .here))))))))
         obtain rfl := some_eq hM
         refine ⟨_, _, hS6897, fun w6898 hS6899 => ?_⟩
         exact ⟨rfl, ⟨m6085, (some ⟨b6769, 0, none⟩), l6090.length, c6093, cs6094⟩, ⟨le6089, row_n (hS6897.toHeld.own (.there (.there (.there (.there (.there .here)))))) hrc6096 (by decide), hrc6096⟩, hS6899⟩
  ·rintro _ w6909 ⟨rfl, ⟨z6900, z6901, z6902, z6903, z6904⟩, ⟨hz6905, hz6906, hz6907⟩, hS6908⟩
   simp only [List.cons_append, List.append_nil] at hS6908
   refine ⟨_, _, hS6908, fun w6910 hS6911 => ?_⟩
   have le6912 := Mem.le_trans le4573 hz6905
   have le6913 := Mem.le_trans le4574 hz6905
   have le6914 := hz6905
   replace hk12 := RFleet.mono _ _ _ _ hk12 hz6905
   replace hr7 := RSl.mono RStop.mono hr7 hz6905
   replace hr11 := RSl.mono (RS.mono RInt.mono) hr11 hz6905
   replace hrc27 := RCs.mono RTour.mono hrc27 hz6905
   replace hrc42 := RCs.mono RPlanF.mono hrc42 hz6905
   replace hk59 := RPlanF.mono _ _ _ _ hk59 hz6905
   replace hr58 := Fresh.mono RTour.mono hr58 hz6905
   replace hr60 := RSl.mono RTour.mono hr60 hz6905
   replace hrc63 := RCs.mono RPlanF.mono hrc63 hz6905
   replace hrc4583 := RCs.mono RPlanF.mono hrc4583 hz6905
   subst hz6906
   refine c_nil <| q_norm <| c_nil <| q_norm <| c_seq <| c_seq <| c_region <| wl_h hS6911.toHeld (r_box ty3 (k := 0) (.there (.there .here)) rfl rfl rfl (v := .int .i64 _) rfl) ?_
   refine wl_nil <| c_region <| wl_alloc ty3 rfl hS6911 ?_
   intro b6915 w6916 hS6917
   refine wl_store_box ty3 hS6917 rfl (v := .int .i64 _) rfl (vs := [.int .i64 _]) rfl rfl rfl .here (cs' := [.int .i64 _]) rfl rfl ?_
   intro w6918 hS6919
   refine wl_nil <| c_region <| wl_h hS6919.toHeld (r_box ty3 (k := 0) .here rfl rfl rfl (v := .int .i64 _) rfl) ?_
   obtain ⟨hc6920, hM⟩ := chk_ok hM
   refine wl_h hS6919.toHeld (r_add (a := _) (b := _) rfl rfl (ok_lo hc6920) (ok_hi hc6920)) <| wl_store_box ty3 hS6919 rfl (v := .int .i64 _) rfl (vs := [.int .i64 _]) rfl rfl rfl .here (cs' := [.int .i64 _]) rfl rfl ?_
   intro w6921 hS6922
   refine wl_nil <| c_nil <| q_loopN ?_
   have hS6923 := hS6922.front (.there .here)
   have hS6924 := St.mark (A := [.box b6915 3 [.int .i64 (y4576 + 1)], .box b4595 3 [.int .i64 y4576], .box b4575 3 [.int .i64 y4576], .box b43 92 [.slice z6901 r6101.length z6903], .row (.slice z6901 r6101.length z6903) 59 3 z6904, .box b32 89 [.slice a23 r19.length c25], .row (.slice a23 r19.length c25) 42 3 cs26, .box b16 59 [.bool false, .slice none 0 0, .int .i64 0]]) hS6923
   simp only [List.cons_append, List.nil_append] at hS6924
   have hS6925 := hS6924.weaken (.cons_cons _ (.cons _ (.cons _ (.cons_cons _ (.cons_cons _ (.cons_cons _ (.cons_cons _ (.cons_cons _ (.refl _)))))))))
   exact ⟨k_0, Nat.lt_succ_self _, (D4598 :: ds4584), y4576 + 1, r6101, z6900, b6915, z6901, r6101.length, z6903, z6904, rfl, hM, le6913, row_n (hS6925.toHeld.own (.there (.there .here))) hz6907 (by decide), hz6907, hS6925, rfl, rfl, rfl, rfl⟩
 ·replace hM := bif_f h4594 hM
  refine c_exit <| q_loopx <| q_hit <| c_seq <| c_region <| wl_h hS4588.toHeld (r_box ty92 (k := 0) (.there .here) rfl rfl rfl (v := .slice _ _ _) rfl) ?_
  refine wl_h hS4588.toHeld (r_box ty92 (k := 0) (.there .here) rfl rfl rfl (v := .slice _ _ _) rfl) <| wl_h hS4588.toHeld (r_len Try.underlying92 (a := _) (n := _) (c := _) rfl) ?_
  obtain ⟨hc6926, hM⟩ := chk_ok hM
  refine wl_h hS4588.toHeld (r_sub (a := _) (b := _) rfl rfl (ok_lo hc6926) (ok_hi hc6926)) ?_
  obtain ⟨x6927, hx6928, h6929, h6930, hM⟩ := getK_ok hM
  obtain ⟨b6931, rfl⟩ := row_some (hS4588.toHeld.own (.there (.there .here))) hrc4583 (by decide) h6929 h6930
  obtain ⟨es6932, hes6933, hR6934⟩ := row_read hrc4583 hx6928
  have hk6939 := hR6934
  obtain ⟨a6935, n6936, c6937, rfl, hr6938⟩ := hR6934
  have hr6940 := Fresh.rsl hr6938
  obtain rfl := hr6940.1
  refine wl_h hS4588.toHeld (r_indexAddr Try.underlying92 ty59 (b := _) (o := _) (n := _) (c := _) (i := ((l4577.length : Nat) : Int) - 1) rfl rfl h6929 (row_lt (hS4588.toHeld.own (.there (.there .here))) hrc4583 (by decide) h6930)) <| wl_h hS4588.toHeld (r_row ty59 (k := 0) (i := (((l4577.length : Nat) : Int) - 1).toNat) (.there (.there .here)) rfl rfl (row_room hrc4583 hx6928) hes6933 rfl (v := .agg #[.bool _, .slice _ _ _, .int .i64 _]) rfl) <| wl_store_box ty59 hS4588 rfl (v := .agg #[.bool _, .slice _ _ _, .int .i64 _]) rfl (vs := [.bool _, .slice _ _ _, .int .i64 _]) rfl rfl rfl (.there (.there (.there (.there (.there .here))))) (cs' := [.bool _, .slice _ _ _, .int .i64 _]) rfl rfl ?_
  intro w6941 hS6942
  refine wl_nil <| c_ret <| ret_marks (A := [.box b4575 3 [.int .i64 y4576], .box b43 92 [.slice (some ⟨b6931, 0, none⟩) l4577.length c4580], .row (.slice (some ⟨b6931, 0, none⟩) l4577.length c4580) 59 3 cs4581, .box b32 89 [.slice a23 r19.length c25], .row (.slice a23 r19.length c25) 42 3 cs26, .box b16 59 [.bool x6927.ok, .slice a6935 x6927.tours.length c6937, .int .i64 x6927.takes]]) (ds := _) (L := L) hS6942 (fun w6944 hS6943 => ?_)
  simp only [List.cons_append, List.nil_append] at hS6943
  refine ret_many rfl (.cell (v := .agg #[.bool _, .slice _ _ _, .int .i64 _]) rfl (ty59.run_loadVar (cs := [.bool _, .slice _ _ _, .int .i64 _]) (box_at (hS6943.toHeld.own (.there (.there (.there (.there (.there .here))))))) rfl) .nil) ?_
  obtain ⟨m6945, hm6946, cs6947, hrc6948, hS6949⟩ := hS6943.reclaim hr6938 le4573
  obtain rfl := some_eq hM
  have hS6951 := hS6949.weaken (.cons_cons _ (.cons _ (.cons _ (.cons _ (.cons _ (.cons _ (.cons _ (.refl _))))))))
  exact ⟨m6945, a6935, x6927.tours.length, c6937, cs6947, rfl, hm6946, row_n (hS6951.toHeld.own .here) hrc6948 (by decide), hrc6948, hS6951⟩

end Go.Proofs.Ytdhhimfcjoclfaa
