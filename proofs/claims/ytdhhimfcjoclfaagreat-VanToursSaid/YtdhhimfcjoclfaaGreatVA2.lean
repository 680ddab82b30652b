import Derived.Test.YtdhhimfcjoclfaaGreatVA1
set_option linter.unusedVariables false
set_option linter.unusedSimpArgs false
set_option maxRecDepth 100000
namespace Go.Proofs.YtdhhimfcjoclfaaGreat
open Go Go.K Go.V Go.Proofs
attribute [local irreducible] Calls
theorem cg128 {σ H : Type} {m : Mem} {M : H → Mem} {F : σ → H → Prop} {A : σ → H → List Atom} {y : σ → Int → Int → Option σ} {l : Nat} (hMm : ∀ s h, F s h → m ≤ M h) (hy : ∀ (E : List Atom) (w : World) (s : σ) (h : H) (x0 : Int) (x1 : Int) (s' : σ), F s h → St w (M h) (A s h ++ E) → y s x0 x1 = some s' → K.Yields P0 l [.int .i64 x0, .int .i64 x1] w (fun v w' => v = .bool true ∧ ∃ h', F s' h' ∧ St w' (M h') (A s' h' ++ E))) {b1 : Nat} {y3 : Int} (hb2 : ∀ s h, F s h → K.Own (A s h) (.box b1 3 [.int .i64 y3])) {w : World} {s0 : σ} {h0 : H} {E : List Atom} (hF : F s0 h0) (hS : St w (M h0) (A s0 h0 ++ E)) {fuel : Nat} {r : σ} (hM : mg128 fuel y s0 y3 = some r) : Calls P0 128 [.func (.yield l) #[] #[], .pointer (some ⟨b1, 0, none⟩)].toArray w (Ret fun v w' => v = .tuple #[] ∧ ∃ h', F r h' ∧ St w' (M h') (A r h' ++ E)) := by
 rw [mg128] at hM
 refine enter Tryz.func128 rfl Tryz.ntmps128 (Nat.le_of_ble_eq_true rfl) ?_
 refine c_seq <| c_region <| wl_h hS.toHeld (r_box ty3 (k := 0) (K.Own.left (hb2 _ _ hF)) rfl rfl rfl (v := .int .i64 _) rfl) <| wl_h hS.toHeld (r_box ty3 (k := 0) (K.Own.left (hb2 _ _ hF)) rfl rfl rfl (v := .int .i64 _) rfl) ?_
 obtain ⟨hc4, hM⟩ := chk_ok hM
 refine wl_h hS.toHeld (r_negk (a := _) rfl hc4) <| wl_h hS.toHeld (r_and (a := _) (b := _) rfl rfl) <| wl_h hS.toHeld (r_assign (v := .int .i64 _) rfl) <| wl_nil <| c_seq <| c_region <| wl_h hS.toHeld (r_box ty3 (k := 0) (K.Own.left (hb2 _ _ hF)) rfl rfl rfl (v := .int .i64 _) rfl) ?_
 refine wl_h hS.toHeld (r_move (v := .int .i64 _) rfl) <| wl_h hS.toHeld (r_xor (a := _) (b := _) rfl rfl) <| wl_h hS.toHeld (r_assign (v := .int .i64 _) rfl) <| wl_nil <| c_seq <| c_region <| wl_h hS.toHeld (r_move (v := .int .i64 _) rfl) ?_
 refine wl_h hS.toHeld (r_assign (v := .int .i64 _) rfl) <| wl_nil <| c_block <| c_loop (fun k f w => ∃ (s26 : σ) (x29 : Int) (h27 : H), mg128_l0 fuel y y3 k s26 x29 = some r ∧ F s26 h27 ∧ St w (M h27) ((A s26 h27 ++ E)) ∧ f 0 = .func (.yield l) #[] #[] ∧ f 3 = .int .i64 (iand y3 (-y3)) ∧ f 4 = .int .i64 (ixor y3 (iand y3 (-y3))) ∧ f 5 = .int .i64 x29) fuel ⟨s0, ixor y3 (iand y3 (-y3)), h0, hM, hF, hS, rfl, rfl, rfl, rfl⟩ ?_
 rintro k_0 f30 w31 ⟨s26, x29, h27, hM, hF28, hS33, e34, e35, e36, e37⟩
 refine c_know (t := 0) e34 <| c_know (t := 3) e35 <| c_know (t := 4) e36 <| c_know (t := 5) e37 ?_
 clear e34 e35 e36 e37
 rcases k_0 with _ | k_0
 · exact none_ne hM
 rw [mg128_l0] at hM
 refine c_seq <| c_block <| c_seq <| c_seq <| c_region <| wl_h hS33.toHeld (r_move (v := .func (.yield l) #[] #[]) rfl) ?_
 refine wl_h hS33.toHeld (r_move (v := .int .i64 _) rfl) <| wl_h hS33.toHeld (r_move (v := .int .i64 _) rfl) <| wl_h hS33.toHeld (r_or (a := _) (b := _) rfl rfl) <| wl_h hS33.toHeld (r_move (v := .int .i64 _) rfl) <| wl_h hS33.toHeld (r_move (v := .int .i64 _) rfl) ?_
 refine wl_h hS33.toHeld (r_xor (a := _) (b := _) rfl rfl) ?_
 obtain ⟨s38, hq39, hM⟩ := bnd_ok hM
 refine wl_yield rfl (vals := [.int .i64 _, .int .i64 _]) rfl (hy E _ _ _ _ _ _ hF28 hS33 hq39) ?_
 rintro _ w42 ⟨rfl, h40, hF41, hS43⟩
 refine wl_h hS43.toHeld (r_not (b := _) rfl) <| wl_nil <| c_false rfl <| c_skip <| c_seq <| c_region <| wl_h hS43.toHeld (r_move (v := .int .i64 _) rfl) ?_
 refine wl_h hS43.toHeld (r_eql (a := _) (b := _) rfl rfl) <| wl_nil <| c_cond (c := _) rfl (fun h44 => ?_) (fun h44 => ?_)
 ·replace hM := bif_t h44 hM
  refine c_ret <| q_retb <| q_retl <| q_retb <| ret_none rfl ?_
  obtain rfl := some_eq hM
  exact ⟨rfl, h40, hF41, hS43⟩
 ·replace hM := bif_f h44 hM
  refine c_skip <| c_nil <| q_norm <| c_region <| wl_h hS43.toHeld (r_move (v := .int .i64 _) rfl) ?_
  obtain ⟨hc45, hM⟩ := chk_ok hM
  refine wl_h hS43.toHeld (r_sub (a := _) (b := _) rfl rfl (ok_lo hc45) (ok_hi hc45)) <| wl_h hS43.toHeld (r_move (v := .int .i64 _) rfl) <| wl_h hS43.toHeld (r_and (a := _) (b := _) rfl rfl) <| wl_h hS43.toHeld (r_assign (v := .int .i64 _) rfl) <| wl_nil <| c_nil <| q_loop ?_
  exact ⟨k_0, Nat.lt_succ_self _, s38, iand (x29 - 1) (ixor y3 (iand y3 (-y3))), h40, hM, hF41, hS43, rfl, rfl, rfl, rfl⟩

theorem cg117ro_0f {m : Mem} {L : List Atom} {w : World} {a1 : Option Addr} {n2 c3 : Nat} {cs4 : List Value} {t7 : List Tour} {set8 : Int} (hS : St w m L) (hr5 : RCs 3 RTour m cs4 t7) (ho6 : K.Own L (.row (.slice a1 n2 c3) 61 3 cs4)) {fuel : Nat} {r : Tour} (hM : mg117ro_0f fuel t7 set8 = some r) : Calls P0 117 [.slice a1 n2 c3, .int .i64 set8].toArray w (Ret fun v w' => ∃ (a0 : Option Addr) (n0 : Nat) (c0 : Nat), v = .agg #[.slice a0 n0 c0, .int .i64 r.leave, .int .i64 r.fin] ∧ RSl 1 RInt m a0 n0 c0 r.stops ∧ St w' m (L)) := by
 rw [mg117ro_0f] at hM
 obtain rfl := row_n (hS.toHeld.own ho6) hr5 (by decide)
 refine enter Tryz.func117 rfl Tryz.ntmps117 (Nat.le_of_ble_eq_true rfl) ?_
 refine c_seq <| c_region <| wl_alloc ty61 rfl hS ?_
 intro b9 w10 hS11
 refine wl_nil <| c_seq <| c_region <| wl_h hS11.toHeld (r_move (v := .slice _ _ _) rfl) <| wl_h hS11.toHeld (r_move (v := .int .i64 _) rfl) ?_
 obtain ⟨x12, hx13, h14, h15, hM⟩ := getK_ok hM
 obtain ⟨b16, rfl⟩ := row_some (hS11.toHeld.own (.there ho6)) hr5 (by decide) h14 h15
 obtain ⟨es17, hes18, hR19⟩ := row_read hr5 hx13
 have hk24 := hR19
 obtain ⟨a20, n21, c22, rfl, hr23⟩ := hR19
 obtain rfl := hr23.1
 refine wl_h hS11.toHeld (r_indexAddr Tryz.underlying178 ty61 (b := _) (o := _) (n := _) (c := _) (i := set8) rfl rfl h14 (row_lt (hS11.toHeld.own (.there ho6)) hr5 (by decide) h15)) <| wl_h hS11.toHeld (r_row ty61 (k := 0) (i := set8.toNat) (.there ho6) rfl rfl (row_room hr5 hx13) hes18 rfl (v := .agg #[.slice _ _ _, .int .i64 _, .int .i64 _]) rfl) <| wl_store_box ty61 hS11 rfl (v := .agg #[.slice _ _ _, .int .i64 _, .int .i64 _]) rfl (vs := [.slice _ _ _, .int .i64 _, .int .i64 _]) rfl rfl rfl .here (cs' := [.slice _ _ _, .int .i64 _, .int .i64 _]) rfl rfl ?_
 intro w25 hS26
 refine wl_nil <| c_ret <| ret_many rfl (.cell (v := .agg #[.slice _ _ _, .int .i64 _, .int .i64 _]) rfl (ty61.run_loadVar (cs := [.slice _ _ _, .int .i64 _, .int .i64 _]) (box_at (hS26.toHeld.own .here)) rfl) .nil) ?_
 obtain rfl := some_eq hM
 have hS27 := hS26.weaken (.cons _ (.refl _))
 exact ⟨a20, x12.stops.length, c22, rfl, hr23, hS27⟩

theorem cg118ro_0f {m0 : Mem} {m : Mem} {L : List Atom} {w : World} {a1 : Option Addr} {n2 c3 : Nat} {cs4 : List Value} {t7 : List Plan} {set8 : Int} (hS : St w m L) (hr5 : RCs 3 (RPlanF m0) m cs4 t7) (ho6 : K.Own L (.row (.slice a1 n2 c3) 143 3 cs4)) {fuel : Nat} {r : Plan} (hM : mg118ro_0f fuel t7 set8 = some r) : Calls P0 118 [.slice a1 n2 c3, .int .i64 set8].toArray w (Ret fun v w' => ∃ (a0 : Option Addr) (n0 : Nat) (c0 : Nat), v = .agg #[.bool r.ok, .slice a0 n0 c0, .int .i64 r.takes] ∧ RSl 3 RTour m a0 n0 c0 r.tours ∧ St w' m (L)) := by
 rw [mg118ro_0f] at hM
 obtain rfl := row_n (hS.toHeld.own ho6) hr5 (by decide)
 refine enter Tryz.func118 rfl Tryz.ntmps118 (Nat.le_of_ble_eq_true rfl) ?_
 refine c_seq <| c_region <| wl_alloc ty143 rfl hS ?_
 intro b9 w10 hS11
 refine wl_nil <| c_seq <| c_region <| wl_h hS11.toHeld (r_move (v := .slice _ _ _) rfl) <| wl_h hS11.toHeld (r_move (v := .int .i64 _) rfl) ?_
 obtain ⟨x12, hx13, h14, h15, hM⟩ := getK_ok hM
 obtain ⟨b16, rfl⟩ := row_some (hS11.toHeld.own (.there ho6)) hr5 (by decide) h14 h15
 obtain ⟨es17, hes18, hR19⟩ := row_read hr5 hx13
 have hk24 := hR19
 obtain ⟨a20, n21, c22, rfl, hr23⟩ := hR19
 have hr25 := Fresh.rsl hr23
 obtain rfl := hr25.1
 refine wl_h hS11.toHeld (r_indexAddr Tryz.underlying181 ty143 (b := _) (o := _) (n := _) (c := _) (i := set8) rfl rfl h14 (row_lt (hS11.toHeld.own (.there ho6)) hr5 (by decide) h15)) <| wl_h hS11.toHeld (r_row ty143 (k := 0) (i := set8.toNat) (.there ho6) rfl rfl (row_room hr5 hx13) hes18 rfl (v := .agg #[.bool _, .slice _ _ _, .int .i64 _]) rfl) <| wl_store_box ty143 hS11 rfl (v := .agg #[.bool _, .slice _ _ _, .int .i64 _]) rfl (vs := [.bool _, .slice _ _ _, .int .i64 _]) rfl rfl rfl .here (cs' := [.bool _, .slice _ _ _, .int .i64 _]) rfl rfl ?_
 intro w26 hS27
 refine wl_nil <| c_ret <| ret_many rfl (.cell (v := .agg #[.bool _, .slice _ _ _, .int .i64 _]) rfl (ty143.run_loadVar (cs := [.bool _, .slice _ _ _, .int .i64 _]) (box_at (hS27.toHeld.own .here)) rfl) .nil) ?_
 obtain rfl := some_eq hM
 have hS28 := hS27.weaken (.cons _ (.refl _))
 exact ⟨a20, x12.tours.length, c22, rfl, hr25, hS28⟩

theorem cg78 {m : Mem} {L : List Atom} {w : World} {cs1 : List Value} {f3 : Fleet} (hS : St w m L) (hx2 : RFleet m cs1 f3) {fuel : Nat} {r : Plan} (hM : mg78 fuel f3 = some r) : Calls P0 78 [.agg cs1.toArray].toArray w (Ret fun v w' => ∃ (m' : Mem) (a0 : Option Addr) (n0 : Nat) (c0 : Nat) (cs0 : List Value), v = .agg #[.bool r.ok, .slice a0 n0 c0, .int .i64 r.takes] ∧ m ≤ m' ∧ n0 = r.tours.length ∧ RCs 3 RTour m' cs0 r.tours ∧ St w' m' (.row (.slice a0 n0 c0) 61 3 cs0 :: L)) := by
 rw [mg78] at hM
 have hk12 := hx2
 obtain ⟨a4, n5, c6, a8, n9, c10, rfl, hr7, hr11⟩ := hx2
 obtain rfl := hr7.1
 obtain rfl := hr11.1
 refine enter Tryz.func78 rfl Tryz.ntmps78 (Nat.le_of_ble_eq_true rfl) ?_
 refine c_seq <| c_region <| wl_box hS (v := .agg #[.slice _ _ _, .slice _ _ _, .int .i64 _, .int .i64 _, .int .i64 _]) rfl (cs := [.slice _ _ _, .slice _ _ _, .int .i64 _, .int .i64 _, .int .i64 _]) rfl ?_
 intro b13 w14 hS15
 refine wl_alloc ty143 rfl hS15 ?_
 intro b16 w17 hS18
 refine wl_nil <| c_seq <| c_region <| wl_h hS18.toHeld (r_box ty25 (k := 0) (.there .here) rfl rfl rfl (v := .agg #[.slice _ _ _, .slice _ _ _, .int .i64 _, .int .i64 _, .int .i64 _]) rfl) ?_
 obtain ⟨r19, hq20, hM⟩ := bnd_ok hM
 refine wl_call ent116 (vals := [.agg #[.slice _ _ _, .slice _ _ _, .int .i64 _, .int .i64 _, .int .i64 _]]) rfl (cg116 hS18 hk12 hq20) ?_
 rintro _ w29 ⟨m21, a23, n24, c25, cs26, rfl, hm22, rfl, hrc27, hS30⟩
 have le31 := hm22
 replace hk12 := RFleet.mono _ _ _ _ hk12 hm22
 replace hr7 := RSl.mono RStop.mono hr7 hm22
 replace hr11 := RSl.mono (RS.mono RInt.mono) hr11 hm22
 refine wl_alloc ty178 rfl hS30 ?_
 intro b32 w33 hS34
 refine wl_store_box ty178 hS34 rfl (v := .slice _ _ _) rfl (vs := [.slice _ _ _]) rfl rfl rfl .here (cs' := [.slice _ _ _]) rfl rfl ?_
 intro w35 hS36
 refine wl_nil <| c_seq <| c_region <| wl_h hS36.toHeld (r_box ty178 (k := 0) .here rfl rfl rfl (v := .slice _ _ _) rfl) <| wl_h hS36.toHeld (r_len Tryz.underlying178 (a := _) (n := _) (c := _) rfl) ?_
 obtain ⟨hc39, hM⟩ := chk_ok hM
 refine wl_makeSlice Tryz.underlying181 ty143 rfl (by decide) hS36 (l := _) (c := _) rfl rfl (mk_0 hc39) (mk_1 hc39) (mk_2 hc39 (by decide)) (mk_3 hc39) ?_
 intro b37 w38 hS40
 have hrc42 : RCs 3 (RPlanF m) m21 (reps [.bool false, .slice none 0 0, .int .i64 0] ((r19.length : Nat) : Int).toNat) ((List.replicate ((r19.length : Nat) : Int).toNat (⟨false, [], 0⟩ : Plan) : List Plan) : List Plan) := RCs.reps rfl ⟨_, _, _, rfl, Fresh.nil⟩ _
 refine wl_alloc ty181 rfl hS40 ?_
 intro b43 w44 hS45
 refine wl_store_box ty181 hS45 rfl (v := .slice _ _ _) rfl (vs := [.slice _ _ _]) rfl rfl rfl .here (cs' := [.slice _ _ _]) rfl rfl ?_
 intro w46 hS47
 refine wl_nil <| c_seq <| c_region <| wl_h hS47.toHeld (r_box ty181 (k := 0) .here rfl rfl rfl (v := .slice _ _ _) rfl) ?_
 obtain ⟨x48, hx49, h50, h51, hM⟩ := getK_ok hM
 obtain ⟨es52, hes53, hR54⟩ := row_read hrc42 hx49
 have hk59 := hR54
 obtain ⟨a55, n56, c57, rfl, hr58⟩ := hR54
 have hr60 := Fresh.rsl hr58
 obtain rfl := hr60.1
 refine wl_h hS47.toHeld (r_indexAddr Tryz.underlying181 ty143 (b := _) (o := _) (n := _) (c := _) (i := 0) rfl rfl h50 (row_lt (hS47.toHeld.own (.there .here)) hrc42 (by decide) h51)) <| wl_h hS47.toHeld (r_fieldAddr fld143_0 (b := _) (o := _) rfl) <| wl_store_row ty4 hS47 rfl (v := .bool _) rfl (vs := [.bool _]) rfl rfl rfl (.there .here) (Nat.le_trans (by simp only [Nat.zero_add]; omega) (row_room hrc42 hx49)) ?_
 intro w61 hS62
 have hrc63 := RCs.setp hrc42 hx49 (k := 0) (vs := [.bool true]) hes53 (Nat.le_of_ble_eq_true rfl) rfl (y := (⟨true, x48.tours, x48.takes⟩ : Plan)) ⟨_, _, _, rfl, hr58⟩
 generalize spl (reps [.bool false, .slice none 0 0, .int .i64 0] ((r19.length : Nat) : Int).toNat) (0 + (0 : Int).toNat * 3 + 0) [.bool true] = cs64 at hS62 hrc63
 refine wl_nil <| c_seq <| c_seq <| c_region <| wl_alloc ty3 rfl hS62 ?_
 intro b65 w66 hS67
 refine wl_store_box ty3 hS67 rfl (v := .int .i64 _) rfl (vs := [.int .i64 _]) rfl rfl rfl .here (cs' := [.int .i64 _]) rfl rfl ?_
 intro w68 hS69
 refine wl_nil <| c_block ?_
 have hS70 := hS69.weaken (.cons_cons _ (.cons_cons _ (.cons_cons _ (.cons_cons _ (.cons_cons _ (.cons_cons _ (.cons _ (.refl _))))))))
 refine c_loopN (fun k n f w => ∃ (ds4584 : List Nat) (y4576 : Int) (l4577 : List Plan) (m4571 : Mem) (b4575 : Nat) (a4578 : Option Addr) (n4579 : Nat) (c4580 : Nat) (cs4581 : List Value), n = ⟨83, ds4584⟩ ∧ mg78_l0 fuel r19 k y4576 l4577 = some r ∧ m21 ≤ m4571 ∧ n4579 = l4577.length ∧ RCs 3 (RPlanF m) m4571 cs4581 l4577 ∧ St w m4571 (.box b4575 3 [.int .i64 y4576] :: .box b43 181 [.slice a4578 n4579 c4580] :: .row (.slice a4578 n4579 c4580) 143 3 cs4581 :: .box b32 178 [.slice a23 r19.length c25] :: .row (.slice a23 r19.length c25) 61 3 cs26 :: .box b16 143 [.bool false, .slice none 0 0, .int .i64 0] :: (dfrs ds4584 ++ L)) ∧ f 2 = .pointer (some ⟨b16, 0, none⟩) ∧ f 3 = .pointer (some ⟨b32, 0, none⟩) ∧ f 4 = .pointer (some ⟨b43, 0, none⟩) ∧ f 5 = .pointer (some ⟨b4575, 0, none⟩)) fuel ⟨[], 1, ((List.replicate ((r19.length : Nat) : Int).toNat (⟨false, [], 0⟩ : Plan) : List Plan).set (0 : Int).toNat (⟨true, x48.tours, x48.takes⟩ : Plan)), m21, b65, (some ⟨b37, 0, none⟩), ((r19.length : Nat) : Int).toNat, ((r19.length : Nat) : Int).toNat, cs64, rfl, hM, Mem.le_refl _, row_n (hS70.toHeld.own (.there (.there .here))) hrc63 (by decide), hrc63, hS70, rfl, rfl, rfl, rfl⟩ ?_
 rintro k_0 nf4593 f4585 w4586 ⟨ds4584, y4576, l4577, m4571, b4575, a4578, n4579, c4580, cs4581, rfl, hM, hm4572, hn4582, hrc4583, hS4588, e4589, e4590, e4591, e4592⟩
 replace hk12 := RFleet.mono _ _ _ _ hk12 hm4572
 replace hr7 := RSl.mono RStop.mono hr7 hm4572
 replace hr11 := RSl.mono (RS.mono RInt.mono) hr11 hm4572
 replace hrc27 := RCs.mono RTour.mono hrc27 hm4572
 replace hrc42 := RCs.mono RPlanF.mono hrc42 hm4572
 replace hk59 := RPlanF.mono _ _ _ _ hk59 hm4572
 replace hr58 := Fresh.mono RTour.mono hr58 hm4572
 replace hr60 := RSl.mono RTour.mono hr60 hm4572
 replace hrc63 := RCs.mono RPlanF.mono hrc63 hm4572
 have le4573 := Mem.le_trans le31 hm4572
 have le4574 := hm4572
 subst hn4582
 refine c_know (t := 2) e4589 <| c_know (t := 3) e4590 <| c_know (t := 4) e4591 <| c_know (t := 5) e4592 ?_
 clear e4589 e4590 e4591 e4592
 rcases k_0 with _ | k_0
 · exact none_ne hM
 rw [mg78_l0] at hM
 refine c_seq <| c_seq <| c_region <| wl_h hS4588.toHeld (r_box ty3 (k := 0) .here rfl rfl rfl (v := .int .i64 _) rfl) <| wl_h hS4588.toHeld (r_box ty181 (k := 0) (.there .here) rfl rfl rfl (v := .slice _ _ _) rfl) ?_
 refine wl_h hS4588.toHeld (r_len Tryz.underlying181 (a := _) (n := _) (c := _) rfl) <| wl_h hS4588.toHeld (r_lss (a := _) (b := _) rfl rfl) <| wl_nil <| c_cond (c := _) rfl (fun h4594 => ?_) (fun h4594 => ?_)
 ·replace hM := bif_t h4594 hM
  refine c_skip <| c_seq <| c_block <| c_seq <| c_region <| wl_h hS4588.toHeld (r_box ty3 (k := 0) .here rfl rfl rfl (v := .int .i64 _) rfl) ?_
  refine wl_call ent93 (vals := [.int .i64 _]) rfl (cg93 hS4588 ) ?_
  rintro _ w4596 ⟨b4595, rfl, hS4597⟩
  refine wl_nil <| c_block <| c_rangeFunc ent128 (caps := [.pointer (some ⟨_, _, none⟩)]) rfl hS4597 (fun fn6097 D4598 l4598 w6098 q4598 hq6099 hS6100 => ?_)
  obtain ⟨r6101, hq6102, hM⟩ := bnd_ok hM
  refine Calls.ret_mono (cg128 (σ := (List Plan)) (H := Mem × (Option Addr) × Nat × Nat × (List Value)) (m := m4571) (M := fun h => h.1) (F := fun s h => m4571 ≤ h.1 ∧ h.2.2.1 = s.length ∧ RCs 3 (RPlanF m) h.1 h.2.2.2.2 s) (A := fun s h => .raw l4598 (.loop q4598) :: .raw D4598 (.deferred (some [])) :: .box b4595 3 [.int .i64 y4576] :: .box b4575 3 [.int .i64 y4576] :: .box b43 181 [.slice h.2.1 h.2.2.1 h.2.2.2.1] :: .row (.slice h.2.1 h.2.2.1 h.2.2.2.1) 143 3 h.2.2.2.2 :: .box b32 178 [.slice a23 r19.length c25] :: .row (.slice a23 r19.length c25) 61 3 cs26 :: .box b16 143 [.bool false, .slice none 0 0, .int .i64 0] :: (dfrs ds4584 ++ L)) (y := (fun s x4598_0 x4598_1 => mg78_r4598 fuel r19 y4576 s x4598_0 x4598_1)) (l := l4598) (fun s h hF => hF.1) ?_ (fun _ _ _ => (.there (.there .here))) (s0 := l4577) (h0 := ⟨m4571, a4578, l4577.length, c4580, cs4581⟩) (E := []) ⟨Mem.le_refl _, row_n (hS4597.toHeld.own (.there (.there (.there .here)))) hrc4583 (by decide), hrc4583⟩ (by simpa using hS6100) hq6102) ?_
  ·rintro E w6106 l6090 ⟨m6085, a6091, n6092, c6093, cs6094⟩ x6104 x6105 s' ⟨hm6086, hn6095, hrc6096⟩ hS6103 hM
   replace hk12 := RFleet.mono _ _ _ _ hk12 hm6086
   replace hr7 := RSl.mono RStop.mono hr7 hm6086
   replace hr11 := RSl.mono (RS.mono RInt.mono) hr11 hm6086
   replace hrc27 := RCs.mono RTour.mono hrc27 hm6086
   replace hrc42 := RCs.mono RPlanF.mono hrc42 hm6086
   replace hk59 := RPlanF.mono _ _ _ _ hk59 hm6086
   replace hr58 := Fresh.mono RTour.mono hr58 hm6086
   replace hr60 := RSl.mono RTour.mono hr60 hm6086
   replace hrc63 := RCs.mono RPlanF.mono hrc63 hm6086
   replace hrc4583 := RCs.mono RPlanF.mono hrc4583 hm6086
   have le6087 := Mem.le_trans le4573 hm6086
   have le6088 := Mem.le_trans le4574 hm6086
   have le6089 := hm6086
   subst hn6095
   simp only [List.cons_append] at hS6103
   change mg78_r4598 fuel r19 y4576 l6090 x6104 x6105 = some s' at hM
   rw [mg78_r4598] at hM
   refine yields_of (ps := [27, 28]) hS6103 (congrArg Loop.state hq6099) (congrArg Loop.pending hq6099) (congrArg Loop.tmps hq6099) (congrArg Loop.params hq6099) (congrArg Loop.assign hq6099) (congrArg Loop.body hq6099) rfl ?_
   refine c_seq <| c_region <| wl_h hS6103.toHeld (r_assign (v := .int .i64 _) rfl) <| wl_nil <| c_region <| wl_h hS6103.toHeld (r_assign (v := .int .i64 _) rfl) ?_
   refine wl_nil <| c_nil <| ⟨_, _, hS6103, fun w6107 hS6108 => ?_⟩
   refine c_block <| c_seq ?_
   obtain ⟨r6111, hq6112, hM⟩ := bnd_ok hM
   obtain ⟨r6121, hq6122, hM⟩ := bnd_ok hM
   have hH6155 := (hS6108.weaken (.cons_cons _ (.cons_cons _ (.cons_cons _ (.cons_cons _ (.cons_cons _ (.cons_cons _ (.cons_cons _ (.cons_cons _ (.cons_cons _ (.refl _))))))))))).toHeld
   refine c_drawJ (k := 10) (fun f w => ∃ (a6145 : Option Addr) (n6146 : Nat) (c6147 : Nat) (b6149 : Nat) (a6150 : Option Addr) (n6151 : Nat) (c6152 : Nat) (b6154 : Nat), RSl 3 RTour m6085 a6145 n6146 c6147 r6121.tours ∧ RSl 1 RInt m6085 a6150 n6151 c6152 r6111.stops ∧ St w m6085 (.box b6149 143 [.bool r6121.ok, .slice a6145 n6146 c6147, .int .i64 r6121.takes] :: .box b6154 61 [.slice a6150 n6151 c6152, .int .i64 r6111.leave, .int .i64 r6111.fin] :: .raw l4598 (.loop (busy q4598)) :: .raw D4598 (.deferred (some [])) :: .box b4595 3 [.int .i64 y4576] :: .box b4575 3 [.int .i64 y4576] :: .box b43 181 [.slice a6091 l6090.length c6093] :: .row (.slice a6091 l6090.length c6093) 143 3 cs6094 :: .box b32 178 [.slice a23 r19.length c25] :: .row (.slice a23 r19.length c25) 61 3 cs26 :: .box b16 143 [.bool false, .slice none 0 0, .int .i64 0] :: ((dfrs ds4584 ++ L) ++ E)) ∧ f 2 = .pointer (some ⟨b16, 0, none⟩) ∧ f 4 = .pointer (some ⟨b43, 0, none⟩) ∧ f 5 = .pointer (some ⟨b4575, 0, none⟩) ∧ f 8 = .pointer (some ⟨b6154, 0, none⟩) ∧ f 9 = .pointer (some ⟨b6149, 0, none⟩)) (fun w => Held w m6085 (.raw l4598 (.loop (busy q4598)) :: .raw D4598 (.deferred (some [])) :: .box b4595 3 [.int .i64 y4576] :: .box b4575 3 [.int .i64 y4576] :: .box b43 181 [.slice a6091 l6090.length c6093] :: .row (.slice a6091 l6090.length c6093) 143 3 cs6094 :: .box b32 178 [.slice a23 r19.length c25] :: .row (.slice a23 r19.length c25) 61 3 cs26 :: .box b16 143 [.bool false, .slice none 0 0, .int .i64 0] :: ((dfrs ds4584 ++ L) ++ E))) mixed rfl ?_ ?_
   ·replace hH6155 := hH6155.drew1
    have hS6156 := hS6108.drew1
    refine d_v (i := 0) rfl (by kernel_rfl) rfl (r_box ty178 (k := 0) (.there (.there (.there (.there (.there (.there .here)))))) rfl rfl rfl (v := .slice _ _ _) rfl) hH6155 ?_
    refine d_v (i := 1) rfl (by kernel_rfl) rfl (r_move (v := .int .i64 _) rfl) hH6155 ?_
    refine d_v (i := 3) rfl (by kernel_rfl) rfl (r_box ty181 (k := 0) (.there (.there (.there (.there .here)))) rfl rfl rfl (v := .slice _ _ _) rfl) hH6155 ?_
    refine d_v (i := 4) rfl (by kernel_rfl) rfl (r_move (v := .int .i64 _) rfl) hH6155 ?_
    refine d_all (rs := [2, 6, 7]) (by kernel_rfl) (by simp) (fun j hj o ho => ?_)
    simp only [List.mem_cons, List.not_mem_nil, or_false] at hj
    rcases hj with rfl | rfl | rfl
    ·cases ho
     refine wl_call ent117 (vals := [.slice _ _ _, .int .i64 _]) rfl (cg117ro_0f hS6156 hrc27 (.there (.there (.there (.there (.there (.there (.there .here))))))) hq6112) ?_
     rintro _ w6162 ⟨a6158, n6159, c6160, rfl, hr6161, hS6163⟩
     obtain rfl := hr6161.1
     refine wl_nil ?_
     have hH6164 := hS6163.toHeld.mono (Mem.le_refl _) (List.Sublist.subset (.cons_cons _ (.cons_cons _ (.cons_cons _ (.cons_cons _ (.cons_cons _ (.cons_cons _ (.cons_cons _ (.cons_cons _ (.cons_cons _ (.refl _)))))))))))
     refine ⟨hH6164, ?_⟩
     refine d_all (rs := [5, 6, 7]) (by kernel_rfl) (by simp) (fun j hj o ho => ?_)
     simp only [List.mem_cons, List.not_mem_nil, or_false] at hj
     rcases hj with rfl | rfl | rfl
     ·cases ho
      refine wl_call ent118 (vals := [.slice _ _ _, .int .i64 _]) rfl (cg118ro_0f hS6163 hrc6096 (.there (.there (.there (.there (.there .here))))) hq6122) ?_
      rintro _ w6170 ⟨a6166, n6167, c6168, rfl, hr6169, hS6171⟩
      obtain rfl := hr6169.1
      refine wl_nil ?_
      have hH6172 := hS6171.toHeld.mono (Mem.le_refl _) (List.Sublist.subset (.cons_cons _ (.cons_cons _ (.cons_cons _ (.cons_cons _ (.cons_cons _ (.cons_cons _ (.cons_cons _ (.cons_cons _ (.cons_cons _ (.refl _)))))))))))
      refine ⟨hH6172, ?_⟩
      refine d_all (rs := [6, 7]) (by kernel_rfl) (by simp) (fun j hj o ho => ?_)
      simp only [List.mem_cons, List.not_mem_nil, or_false] at hj
      rcases hj with rfl | rfl
      ·cases ho
       refine wl_alloc ty61 rfl hS6171 ?_
       intro b6173 w6174 hS6175
       refine wl_nil ?_
       have hH6176 := hS6175.toHeld.mono (Mem.le_refl _) (List.Sublist.subset (.cons _ (.cons_cons _ (.cons_cons _ (.cons_cons _ (.cons_cons _ (.cons_cons _ (.cons_cons _ (.cons_cons _ (.cons_cons _ (.cons_cons _ (.refl _))))))))))))
       refine ⟨hH6176, ?_⟩
       refine d_all (rs := [7]) (by kernel_rfl) (by simp) (fun j hj o ho => ?_)
       obtain rfl : j = 7 := by simpa using hj
       cases ho
       refine wl_alloc ty143 rfl hS6175 ?_
       intro b6177 w6178 hS6179
       refine wl_nil ?_
       have hH6180 := hS6179.toHeld.mono (Mem.le_refl _) (List.Sublist.subset (.cons _ (.cons _ (.cons_cons _ (.cons_cons _ (.cons_cons _ (.cons_cons _ (.cons_cons _ (.cons_cons _ (.cons_cons _ (.cons_cons _ (.cons_cons _ (.refl _)))))))))))))
       refine ⟨hH6180, ?_⟩
       refine d_all (rs := [8]) (by kernel_rfl) (by simp) (fun j hj o ho => ?_)
       obtain rfl : j = 8 := by simpa using hj
       cases ho
       refine wl_store_box ty61 hS6179 rfl (v := .agg #[.slice _ _ _, .int .i64 _, .int .i64 _]) rfl (vs := [.slice _ _ _, .int .i64 _, .int .i64 _]) rfl rfl rfl (.there .here) (cs' := [.slice _ _ _, .int .i64 _, .int .i64 _]) rfl rfl ?_
       intro w6181 hS6182
       refine wl_nil ?_
       have hH6183 := hS6182.toHeld.mono (Mem.le_refl _) (List.Sublist.subset (.cons _ (.cons _ (.cons_cons _ (.cons_cons _ (.cons_cons _ (.cons_cons _ (.cons_cons _ (.cons_cons _ (.cons_cons _ (.cons_cons _ (.cons_cons _ (.refl _)))))))))))))
       refine ⟨hH6183, ?_⟩
       refine d_all (rs := [9]) (by kernel_rfl) (by simp) (fun j hj o ho => ?_)
       obtain rfl : j = 9 := by simpa using hj
       cases ho
       refine wl_store_box ty143 hS6182 rfl (v := .agg #[.bool _, .slice _ _ _, .int .i64 _]) rfl (vs := [.bool _, .slice _ _ _, .int .i64 _]) rfl rfl rfl .here (cs' := [.bool _, .slice _ _ _, .int .i64 _]) rfl rfl ?_
       intro w6184 hS6185
       refine wl_nil ?_
       have hH6186 := hS6185.toHeld.mono (Mem.le_refl _) (List.Sublist.subset (.cons _ (.cons _ (.cons_cons _ (.cons_cons _ (.cons_cons _ (.cons_cons _ (.cons_cons _ (.cons_cons _ (.cons_cons _ (.cons_cons _ (.cons_cons _ (.refl _)))))))))))))
       refine ⟨hH6186, ?_⟩
       refine d_end (by kernel_rfl) ?_
       exact ⟨_, _, _, _, _, _, _, _, hr6169, hr6161, hS6185, rfl, rfl, rfl, rfl, rfl⟩
      ·cases ho
       refine wl_alloc ty143 rfl hS6171 ?_
       intro b6187 w6188 hS6189
       refine wl_nil ?_
       have hH6190 := hS6189.toHeld.mono (Mem.le_refl _) (List.Sublist.subset (.cons _ (.cons_cons _ (.cons_cons _ (.cons_cons _ (.cons_cons _ (.cons_cons _ (.cons_cons _ (.cons_cons _ (.cons_cons _ (.cons_cons _ (.refl _))))))))))))
       refine ⟨hH6190, ?_⟩
       refine d_all (rs := [6]) (by kernel_rfl) (by simp) (fun j hj o ho => ?_)
       obtain rfl : j = 6 := by simpa using hj
       cases ho
       refine wl_alloc ty61 rfl hS6189 ?_
       intro b6191 w6192 hS6193
       refine wl_nil ?_
       have hH6194 := hS6193.toHeld.mono (Mem.le_refl _) (List.Sublist.subset (.cons _ (.cons _ (.cons_cons _ (.cons_cons _ (.cons_cons _ (.cons_cons _ (.cons_cons _ (.cons_cons _ (.cons_cons _ (.cons_cons _ (.cons_cons _ (.refl _)))))))))))))
       refine ⟨hH6194, ?_⟩
       refine d_all (rs := [8]) (by kernel_rfl) (by simp) (fun j hj o ho => ?_)
       obtain rfl : j = 8 := by simpa using hj
       cases ho
       refine wl_store_box ty61 hS6193 rfl (v := .agg #[.slice _ _ _, .int .i64 _, .int .i64 _]) rfl (vs := [.slice _ _ _, .int .i64 _, .int .i64 _]) rfl rfl rfl .here (cs' := [.slice _ _ _, .int .i64 _, .int .i64 _]) rfl rfl ?_
       intro w6195 hS6196
       refine wl_nil ?_
       have hH6197 := hS6196.toHeld.mono (Mem.le_refl _) (List.Sublist.subset (.cons _ (.cons _ (.cons_cons _ (.cons_cons _ (.cons_cons _ (.cons_cons _ (.cons_cons _ (.cons_cons _ (.cons_cons _ (.cons_cons _ (.cons_cons _ (.refl _)))))))))))))
       refine ⟨hH6197, ?_⟩
       refine d_all (rs := [9]) (by kernel_rfl) (by simp) (fun j hj o ho => ?_)
       obtain rfl : j = 9 := by simpa using hj
       cases ho
       refine wl_store_box ty143 hS6196 rfl (v := .agg #[.bool _, .slice _ _ _, .int .i64 _]) rfl (vs := [.bool _, .slice _ _ _, .int .i64 _]) rfl rfl rfl (.there .here) (cs' := [.bool _, .slice _ _ _, .int .i64 _]) rfl rfl ?_
       intro w6198 hS6199
       refine wl_nil ?_
       have hH6200 := hS6199.toHeld.mono (Mem.le_refl _) (List.Sublist.subset (.cons _ (.cons _ (.cons_cons _ (.cons_cons _ (.cons_cons _ (.cons_cons _ (.cons_cons _ (.cons_cons _ (.cons_cons _ (.cons_cons _ (.cons_cons _ (.refl _)))))))))))))
       refine ⟨hH6200, ?_⟩
       refine d_end (by kernel_rfl) ?_
       have hS6201 := hS6199.front (.there (.there (.there (.there (.there (.there (.there (.there (.there (.there .here))))))))))
       have hS6202 := hS6201.front (.there (.there (.there (.there (.there (.there (.there (.there (.there (.there .here))))))))))
       have hS6203 := hS6202.front (.there (.there (.there (.there (.there (.there (.there (.there (.there (.there .here))))))))))
       have hS6204 := hS6203.front (.there (.there (.there (.there (.there (.there (.there (.there (.there (.there .here))))))))))
       have hS6205 := hS6204.front (.there (.there (.there (.there (.there (.there (.there (.there (.there (.there .here))))))))))
       have hS6206 := hS6205.front (.there (.there (.there (.there (.there (.there (.there (.there (.there (.there .here))))))))))
       have hS6207 := hS6206.front (.there (.there (.there (.there (.there (.there (.there (.there (.there (.there .here))))))))))
       have hS6208 := hS6207.front (.there (.there (.there (.there (.there (.there (.there (.there (.there (.there .here))))))))))
       have hS6209 := hS6208.front (.there (.there (.there (.there (.there (.there (.there (.there (.there (.there .here))))))))))
       have hS6210 := hS6209.front (.there (.there (.there (.there (.there (.there (.there (.there (.there .here)))))))))
       have hS6211 := hS6210.front (.there (.there (.there (.there (.there (.there (.there (.there (.there (.there .here))))))))))
       exact ⟨_, _, _, _, _, _, _, _, hr6169, hr6161, hS6211, rfl, rfl, rfl, rfl, rfl⟩
     ·cases ho
      refine wl_alloc ty61 rfl hS6163 ?_
      intro b6212 w6213 hS6214
      refine wl_nil ?_
      have hH6215 := hS6214.toHeld.mono (Mem.le_refl _) (List.Sublist.subset (.cons _ (.cons_cons _ (.cons_cons _ (.cons_cons _ (.cons_cons _ (.cons_cons _ (.cons_cons _ (.cons_cons _ (.cons_cons _ (.cons_cons _ (.refl _))))))))))))
      refine ⟨hH6215, ?_⟩
      refine d_all (rs := [5, 7]) (by kernel_rfl) (by simp) (fun j hj o ho => ?_)
      simp only [List.mem_cons, List.not_mem_nil, or_false] at hj
      rcases hj with rfl | rfl
      ·cases ho
       refine wl_call ent118 (vals := [.slice _ _ _, .int .i64 _]) rfl (cg118ro_0f hS6214 hrc6096 (.there (.there (.there (.there (.there (.there .here)))))) hq6122) ?_
       rintro _ w6221 ⟨a6217, n6218, c6219, rfl, hr6220, hS6222⟩
       obtain rfl := hr6220.1
       refine wl_nil ?_
       have hH6223 := hS6222.toHeld.mono (Mem.le_refl _) (List.Sublist.subset (.cons _ (.cons_cons _ (.cons_cons _ (.cons_cons _ (.cons_cons _ (.cons_cons _ (.cons_cons _ (.cons_cons _ (.cons_cons _ (.cons_cons _ (.refl _))))))))))))
       refine ⟨hH6223, ?_⟩
       refine d_all (rs := [7]) (by kernel_rfl) (by simp) (fun j hj o ho => ?_)
       obtain rfl : j = 7 := by simpa using hj
       cases ho
       refine wl_alloc ty143 rfl hS6222 ?_
       intro b6224 w6225 hS6226
       refine wl_nil ?_
       have hH6227 := hS6226.toHeld.mono (Mem.le_refl _) (List.Sublist.subset (.cons _ (.cons _ (.cons_cons _ (.cons_cons _ (.cons_cons _ (.cons_cons _ (.cons_cons _ (.cons_cons _ (.cons_cons _ (.cons_cons _ (.cons_cons _ (.refl _)))))))))))))
       refine ⟨hH6227, ?_⟩
       refine d_all (rs := [8]) (by kernel_rfl) (by simp) (fun j hj o ho => ?_)
       obtain rfl : j = 8 := by simpa using hj
       cases ho
       refine wl_store_box ty61 hS6226 rfl (v := .agg #[.slice _ _ _, .int .i64 _, .int .i64 _]) rfl (vs := [.slice _ _ _, .int .i64 _, .int .i64 _]) rfl rfl rfl (.there .here) (cs' := [.slice _ _ _, .int .i64 _, .int .i64 _]) rfl rfl ?_
       intro w6228 hS6229
       refine wl_nil ?_
       have hH6230 := hS6229.toHeld.mono (Mem.le_refl _) (List.Sublist.subset (.cons _ (.cons _ (.cons_cons _ (.cons_cons _ (.cons_cons _ (.cons_cons _ (.cons_cons _ (.cons_cons _ (.cons_cons _ (.cons_cons _ (.cons_cons _ (.refl _)))))))))))))
       refine ⟨hH6230, ?_⟩
       refine d_all (rs := [9]) (by kernel_rfl) (by simp) (fun j hj o ho => ?_)
       obtain rfl : j = 9 := by simpa using hj
       cases ho
       refine wl_store_box ty143 hS6229 rfl (v := .agg #[.bool _, .slice _ _ _, .int .i64 _]) rfl (vs := [.bool _, .slice _ _ _, .int .i64 _]) rfl rfl rfl .here (cs' := [.bool _, .slice _ _ _, .int .i64 _]) rfl rfl ?_
       intro w6231 hS6232
       refine wl_nil ?_
       have hH6233 := hS6232.toHeld.mono (Mem.le_refl _) (List.Sublist.subset (.cons _ (.cons _ (.cons_cons _ (.cons_cons _ (.cons_cons _ (.cons_cons _ (.cons_cons _ (.cons_cons _ (.cons_cons _ (.cons_cons _ (.cons_cons _ (.refl _)))))))))))))
       refine ⟨hH6233, ?_⟩
       refine d_end (by kernel_rfl) ?_
       exact ⟨_, _, _, _, _, _, _, _, hr6220, hr6161, hS6232, rfl, rfl, rfl, rfl, rfl⟩
      ·cases ho
       refine wl_alloc ty143 rfl hS6214 ?_
       intro b6234 w6235 hS6236
       refine wl_nil ?_
       have hH6237 := hS6236.toHeld.mono (Mem.le_refl _) (List.Sublist.subset (.cons _ (.cons _ (.cons_cons _ (.cons_cons _ (.cons_cons _ (.cons_cons _ (.cons_cons _ (.cons_cons _ (.cons_cons _ (.cons_cons _ (.cons_cons _ (.refl _)))))))))))))
       refine ⟨hH6237, ?_⟩
       refine d_all (rs := [5]) (by kernel_rfl) (by simp) (fun j hj o ho => ?_)
       obtain rfl : j = 5 := by simpa using hj
       cases ho
       refine wl_call ent118 (vals := [.slice _ _ _, .int .i64 _]) rfl (cg118ro_0f hS6236 hrc6096 (.there (.there (.there (.there (.there (.there (.there .here))))))) hq6122) ?_
       rintro _ w6243 ⟨a6239, n6240, c6241, rfl, hr6242, hS6244⟩
       obtain rfl := hr6242.1
       refine wl_nil ?_
       have hH6245 := hS6244.toHeld.mono (Mem.le_refl _) (List.Sublist.subset (.cons _ (.cons _ (.cons_cons _ (.cons_cons _ (.cons_cons _ (.cons_cons _ (.cons_cons _ (.cons_cons _ (.cons_cons _ (.cons_cons _ (.cons_cons _ (.refl _)))))))))))))
       refine ⟨hH6245, ?_⟩
       refine d_all (rs := [8]) (by kernel_rfl) (by simp) (fun j hj o ho => ?_)
       obtain rfl : j = 8 := by simpa using hj
       cases ho
       refine wl_store_box ty61 hS6244 rfl (v := .agg #[.slice _ _ _, .int .i64 _, .int .i64 _]) rfl (vs := [.slice _ _ _, .int .i64 _, .int .i64 _]) rfl rfl rfl (.there .here) (cs' := [.slice _ _ _, .int .i64 _, .int .i64 _]) rfl rfl ?_
       intro w6246 hS6247
       refine wl_nil ?_
       have hH6248 := hS6247.toHeld.mono (Mem.le_refl _) (List.Sublist.subset (.cons _ (.cons _ (.cons_cons _ (.cons_cons _ (.cons_cons _ (.cons_cons _ (.cons_cons _ (.cons_cons _ (.cons_cons _ (.cons_cons _ (.cons_cons _ (.refl _)))))))))))))
       refine ⟨hH6248, ?_⟩
       refine d_all (rs := [9]) (by kernel_rfl) (by simp) (fun j hj o ho => ?_)
       obtain rfl : j = 9 := by simpa using hj
       cases ho
       refine wl_store_box ty143 hS6247 rfl (v := .agg #[.bool _, .slice _ _ _, .int .i64 _]) rfl (vs := [.bool _, .slice _ _ _, .int .i64 _]) rfl rfl rfl .here (cs' := [.bool _, .slice _ _ _, .int .i64 _]) rfl rfl ?_
       intro w6249 hS6250
       refine wl_nil ?_
       have hH6251 := hS6250.toHeld.mono (Mem.le_refl _) (List.Sublist.subset (.cons _ (.cons _ (.cons_cons _ (.cons_cons _ (.cons_cons _ (.cons_cons _ (.cons_cons _ (.cons_cons _ (.cons_cons _ (.cons_cons _ (.cons_cons _ (.refl _)))))))))))))
       refine ⟨hH6251, ?_⟩
       refine d_end (by kernel_rfl) ?_
       exact ⟨_, _, _, _, _, _, _, _, hr6242, hr6161, hS6250, rfl, rfl, rfl, rfl, rfl⟩
     ·cases ho
      refine wl_alloc ty143 rfl hS6163 ?_
      intro b6252 w6253 hS6254
      refine wl_nil ?_
      have hH6255 := hS6254.toHeld.mono (Mem.le_refl _) (List.Sublist.subset (.cons _ (.cons_cons _ (.cons_cons _ (.cons_cons _ (.cons_cons _ (.cons_cons _ (.cons_cons _ (.cons_cons _ (.cons_cons _ (.cons_cons _ (.refl _))))))))))))
      refine ⟨hH6255, ?_⟩
      refine d_all (rs := [5, 6]) (by kernel_rfl) (by simp) (fun j hj o ho => ?_)
      simp only [List.mem_cons, List.not_mem_nil, or_false] at hj
      rcases hj with rfl | rfl
      ·cases ho
       refine wl_call ent118 (vals := [.slice _ _ _, .int .i64 _]) rfl (cg118ro_0f hS6254 hrc6096 (.there (.there (.there (.there (.there (.there .here)))))) hq6122) ?_
       rintro _ w6261 ⟨a6257, n6258, c6259, rfl, hr6260, hS6262⟩
       obtain rfl := hr6260.1
       refine wl_nil ?_
       have hH6263 := hS6262.toHeld.mono (Mem.le_refl _) (List.Sublist.subset (.cons _ (.cons_cons _ (.cons_cons _ (.cons_cons _ (.cons_cons _ (.cons_cons _ (.cons_cons _ (.cons_cons _ (.cons_cons _ (.cons_cons _ (.refl _))))))))))))
       refine ⟨hH6263, ?_⟩
       refine d_all (rs := [6]) (by kernel_rfl) (by simp) (fun j hj o ho => ?_)
       obtain rfl : j = 6 := by simpa using hj
       cases ho
       refine wl_alloc ty61 rfl hS6262 ?_
       intro b6264 w6265 hS6266
       refine wl_nil ?_
       have hH6267 := hS6266.toHeld.mono (Mem.le_refl _) (List.Sublist.subset (.cons _ (.cons _ (.cons_cons _ (.cons_cons _ (.cons_cons _ (.cons_cons _ (.cons_cons _ (.cons_cons _ (.cons_cons _ (.cons_cons _ (.cons_cons _ (.refl _)))))))))))))
       refine ⟨hH6267, ?_⟩
       refine d_all (rs := [8]) (by kernel_rfl) (by simp) (fun j hj o ho => ?_)
       obtain rfl : j = 8 := by simpa using hj
       cases ho
       refine wl_store_box ty61 hS6266 rfl (v := .agg #[.slice _ _ _, .int .i64 _, .int .i64 _]) rfl (vs := [.slice _ _ _, .int .i64 _, .int .i64 _]) rfl rfl rfl .here (cs' := [.slice _ _ _, .int .i64 _, .int .i64 _]) rfl rfl ?_
       intro w6268 hS6269
       refine wl_nil ?_
       have hH6270 := hS6269.toHeld.mono (Mem.le_refl _) (List.Sublist.subset (.cons _ (.cons _ (.cons_cons _ (.cons_cons _ (.cons_cons _ (.cons_cons _ (.cons_cons _ (.cons_cons _ (.cons_cons _ (.cons_cons _ (.cons_cons _ (.refl _)))))))))))))
       refine ⟨hH6270, ?_⟩
       refine d_all (rs := [9]) (by kernel_rfl) (by simp) (fun j hj o ho => ?_)
       obtain rfl : j = 9 := by simpa using hj
       cases ho
       refine wl_store_box ty143 hS6269 rfl (v := .agg #[.bool _, .slice _ _ _, .int .i64 _]) rfl (vs := [.bool _, .slice _ _ _, .int .i64 _]) rfl rfl rfl (.there .here) (cs' := [.bool _, .slice _ _ _, .int .i64 _]) rfl rfl ?_
       intro w6271 hS6272
       refine wl_nil ?_
       have hH6273 := hS6272.toHeld.mono (Mem.le_refl _) (List.Sublist.subset (.cons _ (.cons _ (.cons_cons _ (.cons_cons _ (.cons_cons _ (.cons_cons _ (.cons_cons _ (.cons_cons _ (.cons_cons _ (.cons_cons _ (.cons_cons _ (.refl _)))))))))))))
       refine ⟨hH6273, ?_⟩
       refine d_end (by kernel_rfl) ?_
       have hS6274 := hS6272.front (.there (.there (.there (.there (.there (.there (.there (.there (.there (.there .here))))))))))
       have hS6275 := hS6274.front (.there (.there (.there (.there (.there (.there (.there (.there (.there (.there .here))))))))))
       have hS6276 := hS6275.front (.there (.there (.there (.there (.there (.there (.there (.there (.there (.there .here))))))))))
       have hS6277 := hS6276.front (.there (.there (.there (.there (.there (.there (.there (.there (.there (.there .here))))))))))
       have hS6278 := hS6277.front (.there (.there (.there (.there (.there (.there (.there (.there (.there (.there .here))))))))))
       have hS6279 := hS6278.front (.there (.there (.there (.there (.there (.there (.there (.there (.there (.there .here))))))))))
       have hS6280 := hS6279.front (.there (.there (.there (.there (.there (.there (.there (.there (.there (.there .here))))))))))
       have hS6281 := hS6280.front (.there (.there (.there (.there (.there (.there (.there (.there (.there (.there .here))))))))))
       have hS6282 := hS6281.front (.there (.there (.there (.there (.there (.there (.there (.there (.there (.there .here))))))))))
       have hS6283 := hS6282.front (.there (.there (.there (.there (.there (.there (.there (.there (.there .here)))))))))
       have hS6284 := hS6283.front (.there (.there (.there (.there (.there (.there (.there (.there (.there (.there .here))))))))))
       exact ⟨_, _, _, _, _, _, _, _, hr6260, hr6161, hS6284, rfl, rfl, rfl, rfl, rfl⟩
      ·cases ho
       refine wl_alloc ty61 rfl hS6254 ?_
       intro b6285 w6286 hS6287
       refine wl_nil ?_
       have hH6288 := hS6287.toHeld.mono (Mem.le_refl _) (List.Sublist.subset (.cons _ (.cons _ (.cons_cons _ (.cons_cons _ (.cons_cons _ (.cons_cons _ (.cons_cons _ (.cons_cons _ (.cons_cons _ (.cons_cons _ (.cons_cons _ (.refl _)))))))))))))
       refine ⟨hH6288, ?_⟩
       refine d_all (rs := [5]) (by kernel_rfl) (by simp) (fun j hj o ho => ?_)
       obtain rfl : j = 5 := by simpa using hj
       cases ho
       refine wl_call ent118 (vals := [.slice _ _ _, .int .i64 _]) rfl (cg118ro_0f hS6287 hrc6096 (.there (.there (.there (.there (.there (.there (.there .here))))))) hq6122) ?_
       rintro _ w6294 ⟨a6290, n6291, c6292, rfl, hr6293, hS6295⟩
       obtain rfl := hr6293.1
       refine wl_nil ?_
       have hH6296 := hS6295.toHeld.mono (Mem.le_refl _) (List.Sublist.subset (.cons _ (.cons _ (.cons_cons _ (.cons_cons _ (.cons_cons _ (.cons_cons _ (.cons_cons _ (.cons_cons _ (.cons_cons _ (.cons_cons _ (.cons_cons _ (.refl _)))))))))))))
       refine ⟨hH6296, ?_⟩
       refine d_all (rs := [8]) (by kernel_rfl) (by simp) (fun j hj o ho => ?_)
       obtain rfl : j = 8 := by simpa using hj
       cases ho
       refine wl_store_box ty61 hS6295 rfl (v := .agg #[.slice _ _ _, .int .i64 _, .int .i64 _]) rfl (vs := [.slice _ _ _, .int .i64 _, .int .i64 _]) rfl rfl rfl .here (cs' := [.slice _ _ _, .int .i64 _, .int .i64 _]) rfl rfl ?_
       intro w6297 hS6298
       refine wl_nil ?_
       have hH6299 := hS6298.toHeld.mono (Mem.le_refl _) (List.Sublist.subset (.cons _ (.cons _ (.cons_cons _ (.cons_cons _ (.cons_cons _ (.cons_cons _ (.cons_cons _ (.cons_cons _ (.cons_cons _ (.cons_cons _ (.cons_cons _ (.refl _)))))))))))))
       refine ⟨hH6299, ?_⟩
       refine d_all (rs := [9]) (by kernel_rfl) (by simp) (fun j hj o ho => ?_)
       obtain rfl : j = 9 := by simpa using hj
       cases ho
       refine wl_store_box ty143 hS6298 rfl (v := .agg #[.bool _, .slice _ _ _, .int .i64 _]) rfl (vs := [.bool _, .slice _ _ _, .int .i64 _]) rfl rfl rfl (.there .here) (cs' := [.bool _, .slice _ _ _, .int .i64 _]) rfl rfl ?_
       intro w6300 hS6301
       refine wl_nil ?_
       have hH6302 := hS6301.toHeld.mono (Mem.le_refl _) (List.Sublist.subset (.cons _ (.cons _ (.cons_cons _ (.cons_cons _ (.cons_cons _ (.cons_cons _ (.cons_cons _ (.cons_cons _ (.cons_cons _ (.cons_cons _ (.cons_cons _ (.refl _)))))))))))))
       refine ⟨hH6302, ?_⟩
       refine d_end (by kernel_rfl) ?_
       have hS6303 := hS6301.front (.there (.there (.there (.there (.there (.there (.there (.there (.there (.there .here))))))))))
       have hS6304 := hS6303.front (.there (.there (.there (.there (.there (.there (.there (.there (.there (.there .here))))))))))
       have hS6305 := hS6304.front (.there (.there (.there (.there (.there (.there (.there (.there (.there (.there .here))))))))))
       have hS6306 := hS6305.front (.there (.there (.there (.there (.there (.there (.there (.there (.there (.there .here))))))))))
       have hS6307 := hS6306.front (.there (.there (.there (.there (.there (.there (.there (.there (.there (.there .here))))))))))
       have hS6308 := hS6307.front (.there (.there (.there (.there (.there (.there (.there (.there (.there (.there .here))))))))))
       have hS6309 := hS6308.front (.there (.there (.there (.there (.there (.there (.there (.there (.there (.there .here))))))))))
       have hS6310 := hS6309.front (.there (.there (.there (.there (.there (.there (.there (.there (.there (.there .here))))))))))
       have hS6311 := hS6310.front (.there (.there (.there (.there (.there (.there (.there (.there (.there (.there .here))))))))))
       have hS6312 := hS6311.front (.there (.there (.there (.there (.there (.there (.there (.there (.there .here)))))))))
       have hS6313 := hS6312.front (.there (.there (.there (.there (.there (.there (.there (.there (.there (.there .here))))))))))
       exact ⟨_, _, _, _, _, _, _, _, hr6293, hr6161, hS6313, rfl, rfl, rfl, rfl, rfl⟩
    ·cases ho
     refine wl_alloc ty61 rfl hS6156 ?_
     intro b6314 w6315 hS6316
     refine wl_nil ?_
     have hH6317 := hS6316.toHeld.mono (Mem.le_refl _) (List.Sublist.subset (.cons _ (.cons_cons _ (.cons_cons _ (.cons_cons _ (.cons_cons _ (.cons_cons _ (.cons_cons _ (.cons_cons _ (.cons_cons _ (.cons_cons _ (.refl _))))))))))))
     refine ⟨hH6317, ?_⟩
     refine d_all (rs := [2, 7]) (by kernel_rfl) (by simp) (fun j hj o ho => ?_)
     simp only [List.mem_cons, List.not_mem_nil, or_false] at hj
     rcases hj with rfl | rfl
     ·cases ho
      refine wl_call ent117 (vals := [.slice _ _ _, .int .i64 _]) rfl (cg117ro_0f hS6316 hrc27 (.there (.there (.there (.there (.there (.there (.there (.there .here)))))))) hq6112) ?_
      rintro _ w6323 ⟨a6319, n6320, c6321, rfl, hr6322, hS6324⟩
      obtain rfl := hr6322.1
      refine wl_nil ?_
      have hH6325 := hS6324.toHeld.mono (Mem.le_refl _) (List.Sublist.subset (.cons _ (.cons_cons _ (.cons_cons _ (.cons_cons _ (.cons_cons _ (.cons_cons _ (.cons_cons _ (.cons_cons _ (.cons_cons _ (.cons_cons _ (.refl _))))))))))))
      refine ⟨hH6325, ?_⟩
      refine d_all (rs := [5, 7]) (by kernel_rfl) (by simp) (fun j hj o ho => ?_)
      simp only [List.mem_cons, List.not_mem_nil, or_false] at hj
      rcases hj with rfl | rfl
      ·cases ho
       refine wl_call ent118 (vals := [.slice _ _ _, .int .i64 _]) rfl (cg118ro_0f hS6324 hrc6096 (.there (.there (.there (.there (.there (.there .here)))))) hq6122) ?_
       rintro _ w6331 ⟨a6327, n6328, c6329, rfl, hr6330, hS6332⟩
       obtain rfl := hr6330.1
       refine wl_nil ?_
       have hH6333 := hS6332.toHeld.mono (Mem.le_refl _) (List.Sublist.subset (.cons _ (.cons_cons _ (.cons_cons _ (.cons_cons _ (.cons_cons _ (.cons_cons _ (.cons_cons _ (.cons_cons _ (.cons_cons _ (.cons_cons _ (.refl _))))))))))))
       refine ⟨hH6333, ?_⟩
       refine d_all (rs := [7]) (by kernel_rfl) (by simp) (fun j hj o ho => ?_)
       obtain rfl : j = 7 := by simpa using hj
       cases ho
       refine wl_alloc ty143 rfl hS6332 ?_
       intro b6334 w6335 hS6336
       refine wl_nil ?_
       have hH6337 := hS6336.toHeld.mono (Mem.le_refl _) (List.Sublist.subset (.cons _ (.cons _ (.cons_cons _ (.cons_cons _ (.cons_cons _ (.cons_cons _ (.cons_cons _ (.cons_cons _ (.cons_cons _ (.cons_cons _ (.cons_cons _ (.refl _)))))))))))))
       refine ⟨hH6337, ?_⟩
       refine d_all (rs := [8]) (by kernel_rfl) (by simp) (fun j hj o ho => ?_)
       obtain rfl : j = 8 := by simpa using hj
       cases ho
       refine wl_store_box ty61 hS6336 rfl (v := .agg #[.slice _ _ _, .int .i64 _, .int .i64 _]) rfl (vs := [.slice _ _ _, .int .i64 _, .int .i64 _]) rfl rfl rfl (.there .here) (cs' := [.slice _ _ _, .int .i64 _, .int .i64 _]) rfl rfl ?_
       intro w6338 hS6339
       refine wl_nil ?_
       have hH6340 := hS6339.toHeld.mono (Mem.le_refl _) (List.Sublist.subset (.cons _ (.cons _ (.cons_cons _ (.cons_cons _ (.cons_cons _ (.cons_cons _ (.cons_cons _ (.cons_cons _ (.cons_cons _ (.cons_cons _ (.cons_cons _ (.refl _)))))))))))))
       refine ⟨hH6340, ?_⟩
       refine d_all (rs := [9]) (by kernel_rfl) (by simp) (fun j hj o ho => ?_)
       obtain rfl : j = 9 := by simpa using hj
       cases ho
       refine wl_store_box ty143 hS6339 rfl (v := .agg #[.bool _, .slice _ _ _, .int .i64 _]) rfl (vs := [.bool _, .slice _ _ _, .int .i64 _]) rfl rfl rfl .here (cs' := [.bool _, .slice _ _ _, .int .i64 _]) rfl rfl ?_
       intro w6341 hS6342
       refine wl_nil ?_
       have hH6343 := hS6342.toHeld.mono (Mem.le_refl _) (List.Sublist.subset (.cons _ (.cons _ (.cons_cons _ (.cons_cons _ (.cons_cons _ (.cons_cons _ (.cons_cons _ (.cons_cons _ (.cons_cons _ (.cons_cons _ (.cons_cons _ (.refl _)))))))))))))
       refine ⟨hH6343, ?_⟩
       refine d_end (by kernel_rfl) ?_
       exact ⟨_, _, _, _, _, _, _, _, hr6330, hr6322, hS6342, rfl, rfl, rfl, rfl, rfl⟩
      ·cases ho
       refine wl_alloc ty143 rfl hS6324 ?_
       intro b6344 w6345 hS6346
       refine wl_nil ?_
       have hH6347 := hS6346.toHeld.mono (Mem.le_refl _) (List.Sublist.subset (.cons _ (.cons _ (.cons_cons _ (.cons_cons _ (.cons_cons _ (.cons_cons _ (.cons_cons _ (.cons_cons _ (.cons_cons _ (.cons_cons _ (.cons_cons _ (.refl _)))))))))))))
       refine ⟨hH6347, ?_⟩
       refine d_all (rs := [5]) (by kernel_rfl) (by simp) (fun j hj o ho => ?_)
       obtain rfl : j = 5 := by simpa using hj
       cases ho
       refine wl_call ent118 (vals := [.slice _ _ _, .int .i64 _]) rfl (cg118ro_0f hS6346 hrc6096 (.there (.there (.there (.there (.there (.there (.there .here))))))) hq6122) ?_
       rintro _ w6353 ⟨a6349, n6350, c6351, rfl, hr6352, hS6354⟩
       obtain rfl := hr6352.1
       refine wl_nil ?_
       have hH6355 := hS6354.toHeld.mono (Mem.le_refl _) (List.Sublist.subset (.cons _ (.cons _ (.cons_cons _ (.cons_cons _ (.cons_cons _ (.cons_cons _ (.cons_cons _ (.cons_cons _ (.cons_cons _ (.cons_cons _ (.cons_cons _ (.refl _)))))))))))))
       refine ⟨hH6355, ?_⟩
       refine d_all (rs := [8]) (by kernel_rfl) (by simp) (fun j hj o ho => ?_)
       obtain rfl : j = 8 := by simpa using hj
       cases ho
       refine wl_store_box ty61 hS6354 rfl (v := .agg #[.slice _ _ _, .int .i64 _, .int .i64 _]) rfl (vs := [.slice _ _ _, .int .i64 _, .int .i64 _]) rfl rfl rfl (.there .here) (cs' := [.slice _ _ _, .int .i64 _, .int .i64 _]) rfl rfl ?_
       intro w6356 hS6357
       refine wl_nil ?_
       have hH6358 := hS6357.toHeld.mono (Mem.le_refl _) (List.Sublist.subset (.cons _ (.cons _ (.cons_cons _ (.cons_cons _ (.cons_cons _ (.cons_cons _ (.cons_cons _ (.cons_cons _ (.cons_cons _ (.cons_cons _ (.cons_cons _ (.refl _)))))))))))))
       refine ⟨hH6358, ?_⟩
       refine d_all (rs := [9]) (by kernel_rfl) (by simp) (fun j hj o ho => ?_)
       obtain rfl : j = 9 := by simpa using hj
       cases ho
       refine wl_store_box ty143 hS6357 rfl (v := .agg #[.bool _, .slice _ _ _, .int .i64 _]) rfl (vs := [.bool _, .slice _ _ _, .int .i64 _]) rfl rfl rfl .here (cs' := [.bool _, .slice _ _ _, .int .i64 _]) rfl rfl ?_
       intro w6359 hS6360
       refine wl_nil ?_
       have hH6361 := hS6360.toHeld.mono (Mem.le_refl _) (List.Sublist.subset (.cons _ (.cons _ (.cons_cons _ (.cons_cons _ (.cons_cons _ (.cons_cons _ (.cons_cons _ (.cons_cons _ (.cons_cons _ (.cons_cons _ (.cons_cons _ (.refl _)))))))))))))
       refine ⟨hH6361, ?_⟩
       refine d_end (by kernel_rfl) ?_
       exact ⟨_, _, _, _, _, _, _, _, hr6352, hr6322, hS6360, rfl, rfl, rfl, rfl, rfl⟩
     ·cases ho
      refine wl_alloc ty143 rfl hS6316 ?_
      intro b6362 w6363 hS6364
      refine wl_nil ?_
      have hH6365 := hS6364.toHeld.mono (Mem.le_refl _) (List.Sublist.subset (.cons _ (.cons _ (.cons_cons _ (.cons_cons _ (.cons_cons _ (.cons_cons _ (.cons_cons _ (.cons_cons _ (.cons_cons _ (.cons_cons _ (.cons_cons _ (.refl _)))))))))))))
      refine ⟨hH6365, ?_⟩
      refine d_all (rs := [2]) (by kernel_rfl) (by simp) (fun j hj o ho => ?_)
      obtain rfl : j = 2 := by simpa using hj
      cases ho
      refine wl_call ent117 (vals := [.slice _ _ _, .int .i64 _]) rfl (cg117ro_0f hS6364 hrc27 (.there (.there (.there (.there (.there (.there (.there (.there (.there .here))))))))) hq6112) ?_
      rintro _ w6371 ⟨a6367, n6368, c6369, rfl, hr6370, hS6372⟩
      obtain rfl := hr6370.1
      refine wl_nil ?_
      have hH6373 := hS6372.toHeld.mono (Mem.le_refl _) (List.Sublist.subset (.cons _ (.cons _ (.cons_cons _ (.cons_cons _ (.cons_cons _ (.cons_cons _ (.cons_cons _ (.cons_cons _ (.cons_cons _ (.cons_cons _ (.cons_cons _ (.refl _)))))))))))))
      refine ⟨hH6373, ?_⟩
      refine d_all (rs := [5]) (by kernel_rfl) (by simp) (fun j hj o ho => ?_)
      obtain rfl : j = 5 := by simpa using hj
      cases ho
      refine wl_call ent118 (vals := [.slice _ _ _, .int .i64 _]) rfl (cg118ro_0f hS6372 hrc6096 (.there (.there (.there (.there (.there (.there (.there .here))))))) hq6122) ?_
      rintro _ w6379 ⟨a6375, n6376, c6377, rfl, hr6378, hS6380⟩
      obtain rfl := hr6378.1
      refine wl_nil ?_
      have hH6381 := hS6380.toHeld.mono (Mem.le_refl _) (List.Sublist.subset (.cons _ (.cons _ (.cons_cons _ (.cons_cons _ (.cons_cons _ (.cons_cons _ (.cons_cons _ (.cons_cons _ (.cons_cons _ (.cons_cons _ (.cons_cons _ (.refl _)))))))))))))
      refine ⟨hH6381, ?_⟩
      refine d_all (rs := [8]) (by kernel_rfl) (by simp) (fun j hj o ho => ?_)
      obtain rfl : j = 8 := by simpa using hj
      cases ho
      refine wl_store_box ty61 hS6380 rfl (v := .agg #[.slice _ _ _, .int .i64 _, .int .i64 _]) rfl (vs := [.slice _ _ _, .int .i64 _, .int .i64 _]) rfl rfl rfl (.there .here) (cs' := [.slice _ _ _, .int .i64 _, .int .i64 _]) rfl rfl ?_
      intro w6382 hS6383
      refine wl_nil ?_
      have hH6384 := hS6383.toHeld.mono (Mem.le_refl _) (List.Sublist.subset (.cons _ (.cons _ (.cons_cons _ (.cons_cons _ (.cons_cons _ (.cons_cons _ (.cons_cons _ (.cons_cons _ (.cons_cons _ (.cons_cons _ (.cons_cons _ (.refl _)))))))))))))
      refine ⟨hH6384, ?_⟩
      refine d_all (rs := [9]) (by kernel_rfl) (by simp) (fun j hj o ho => ?_)
      obtain rfl : j = 9 := by simpa using hj
      cases ho
      refine wl_store_box ty143 hS6383 rfl (v := .agg #[.bool _, .slice _ _ _, .int .i64 _]) rfl (vs := [.bool _, .slice _ _ _, .int .i64 _]) rfl rfl rfl .here (cs' := [.bool _, .slice _ _ _, .int .i64 _]) rfl rfl ?_
      intro w6385 hS6386
      refine wl_nil ?_
      have hH6387 := hS6386.toHeld.mono (Mem.le_refl _) (List.Sublist.subset (.cons _ (.cons _ (.cons_cons _ (.cons_cons _ (.cons_cons _ (.cons_cons _ (.cons_cons _ (.cons_cons _ (.cons_cons _ (.cons_cons _ (.cons_cons _ (.refl _)))))))))))))
      refine ⟨hH6387, ?_⟩
      refine d_end (by kernel_rfl) ?_
      exact ⟨_, _, _, _, _, _, _, _, hr6378, hr6370, hS6386, rfl, rfl, rfl, rfl, rfl⟩
    ·cases ho
     refine wl_alloc ty143 rfl hS6156 ?_
     intro b6388 w6389 hS6390
     refine wl_nil ?_
     have hH6391 := hS6390.toHeld.mono (Mem.le_refl _) (List.Sublist.subset (.cons _ (.cons_cons _ (.cons_cons _ (.cons_cons _ (.cons_cons _ (.cons_cons _ (.cons_cons _ (.cons_cons _ (.cons_cons _ (.cons_cons _ (.refl _))))))))))))
     refine ⟨hH6391, ?_⟩
     refine d_all (rs := [2, 6]) (by kernel_rfl) (by simp) (fun j hj o ho => ?_)
     simp only [List.mem_cons, List.not_mem_nil, or_false] at hj
     rcases hj with rfl | rfl
     ·cases ho
      refine wl_call ent117 (vals := [.slice _ _ _, .int .i64 _]) rfl (cg117ro_0f hS6390 hrc27 (.there (.there (.there (.there (.there (.there (.there (.there .here)))))))) hq6112) ?_
      rintro _ w6397 ⟨a6393, n6394, c6395, rfl, hr6396, hS6398⟩
      obtain rfl := hr6396.1
      refine wl_nil ?_
      have hH6399 := hS6398.toHeld.mono (Mem.le_refl _) (List.Sublist.subset (.cons _ (.cons_cons _ (.cons_cons _ (.cons_cons _ (.cons_cons _ (.cons_cons _ (.cons_cons _ (.cons_cons _ (.cons_cons _ (.cons_cons _ (.refl _))))))))))))
      refine ⟨hH6399, ?_⟩
      refine d_all (rs := [5, 6]) (by kernel_rfl) (by simp) (fun j hj o ho => ?_)
      simp only [List.mem_cons, List.not_mem_nil, or_false] at hj
      rcases hj with rfl | rfl
      ·cases ho
       refine wl_call ent118 (vals := [.slice _ _ _, .int .i64 _]) rfl (cg118ro_0f hS6398 hrc6096 (.there (.there (.there (.there (.there (.there .here)))))) hq6122) ?_
       rintro _ w6405 ⟨a6401, n6402, c6403, rfl, hr6404, hS6406⟩
       obtain rfl := hr6404.1
       refine wl_nil ?_
       have hH6407 := hS6406.toHeld.mono (Mem.le_refl _) (List.Sublist.subset (.cons _ (.cons_cons _ (.cons_cons _ (.cons_cons _ (.cons_cons _ (.cons_cons _ (.cons_cons _ (.cons_cons _ (.cons_cons _ (.cons_cons _ (.refl _))))))))))))
       refine ⟨hH6407, ?_⟩
       refine d_all (rs := [6]) (by kernel_rfl) (by simp) (fun j hj o ho => ?_)
       obtain rfl : j = 6 := by simpa using hj
       cases ho
       refine wl_alloc ty61 rfl hS6406 ?_
       intro b6408 w6409 hS6410
       refine wl_nil ?_
       have hH6411 := hS6410.toHeld.mono (Mem.le_refl _) (List.Sublist.subset (.cons _ (.cons _ (.cons_cons _ (.cons_cons _ (.cons_cons _ (.cons_cons _ (.cons_cons _ (.cons_cons _ (.cons_cons _ (.cons_cons _ (.cons_cons _ (.refl _)))))))))))))
       refine ⟨hH6411, ?_⟩
       refine d_all (rs := [8]) (by kernel_rfl) (by simp) (fun j hj o ho => ?_)
       obtain rfl : j = 8 := by simpa using hj
       cases ho
       refine wl_store_box ty61 hS6410 rfl (v := .agg #[.slice _ _ _, .int .i64 _, .int .i64 _]) rfl (vs := [.slice _ _ _, .int .i64 _, .int .i64 _]) rfl rfl rfl .here (cs' := [.slice _ _ _, .int .i64 _, .int .i64 _]) rfl rfl ?_
       intro w6412 hS6413
       refine wl_nil ?_
       have hH6414 := hS6413.toHeld.mono (Mem.le_refl _) (List.Sublist.subset (.cons _ (.cons _ (.cons_cons _ (.cons_cons _ (.cons_cons _ (.cons_cons _ (.cons_cons _ (.cons_cons _ (.cons_cons _ (.cons_cons _ (.cons_cons _ (.refl _)))))))))))))
       refine ⟨hH6414, ?_⟩
       refine d_all (rs := [9]) (by kernel_rfl) (by simp) (fun j hj o ho => ?_)
       obtain rfl : j = 9 := by simpa using hj
       cases ho
       refine wl_store_box ty143 hS6413 rfl (v := .agg #[.bool _, .slice _ _ _, .int .i64 _]) rfl (vs := [.bool _, .slice _ _ _, .int .i64 _]) rfl rfl rfl (.there .here) (cs' := [.bool _, .slice _ _ _, .int .i64 _]) rfl rfl ?_
       intro w6415 hS6416
       refine wl_nil ?_
       have hH6417 := hS6416.toHeld.mono (Mem.le_refl _) (List.Sublist.subset (.cons _ (.cons _ (.cons_cons _ (.cons_cons _ (.cons_cons _ (.cons_cons _ (.cons_cons _ (.cons_cons _ (.cons_cons _ (.cons_cons _ (.cons_cons _ (.refl _)))))))))))))
       refine ⟨hH6417, ?_⟩
       refine d_end (by kernel_rfl) ?_
       have hS6418 := hS6416.front (.there (.there (.there (.there (.there (.there (.there (.there (.there (.there .here))))))))))
       have hS6419 := hS6418.front (.there (.there (.there (.there (.there (.there (.there (.there (.there (.there .here))))))))))
       have hS6420 := hS6419.front (.there (.there (.there (.there (.there (.there (.there (.there (.there (.there .here))))))))))
       have hS6421 := hS6420.front (.there (.there (.there (.there (.there (.there (.there (.there (.there (.there .here))))))))))
       have hS6422 := hS6421.front (.there (.there (.there (.there (.there (.there (.there (.there (.there (.there .here))))))))))
       have hS6423 := hS6422.front (.there (.there (.there (.there (.there (.there (.there (.there (.there (.there .here))))))))))
       have hS6424 := hS6423.front (.there (.there (.there (.there (.there (.there (.there (.there (.there (.there .here))))))))))
       have hS6425 := hS6424.front (.there (.there (.there (.there (.there (.there (.there (.there (.there (.there .here))))))))))
       have hS6426 := hS6425.front (.there (.there (.there (.there (.there (.there (.there (.there (.there (.there .here))))))))))
       have hS6427 := hS6426.front (.there (.there (.there (.there (.there (.there (.there (.there (.there .here)))))))))
       have hS6428 := hS6427.front (.there (.there (.there (.there (.there (.there (.there (.there (.there (.there .here))))))))))
       exact ⟨_, _, _, _, _, _, _, _, hr6404, hr6396, hS6428, rfl, rfl, rfl, rfl, rfl⟩
      ·cases ho
       refine wl_alloc ty61 rfl hS6398 ?_
       intro b6429 w6430 hS6431
       refine wl_nil ?_
       have hH6432 := hS6431.toHeld.mono (Mem.le_refl _) (List.Sublist.subset (.cons _ (.cons _ (.cons_cons _ (.cons_cons _ (.cons_cons _ (.cons_cons _ (.cons_cons _ (.cons_cons _ (.cons_cons _ (.cons_cons _ (.cons_cons _ (.refl _)))))))))))))
       refine ⟨hH6432, ?_⟩
       refine d_all (rs := [5]) (by kernel_rfl) (by simp) (fun j hj o ho => ?_)
       obtain rfl : j = 5 := by simpa using hj
       cases ho
       refine wl_call ent118 (vals := [.slice _ _ _, .int .i64 _]) rfl (cg118ro_0f hS6431 hrc6096 (.there (.there (.there (.there (.there (.there (.there .here))))))) hq6122) ?_
       rintro _ w6438 ⟨a6434, n6435, c6436, rfl, hr6437, hS6439⟩
       obtain rfl := hr6437.1
       refine wl_nil ?_
       have hH6440 := hS6439.toHeld.mono (Mem.le_refl _) (List.Sublist.subset (.cons _ (.cons _ (.cons_cons _ (.cons_cons _ (.cons_cons _ (.cons_cons _ (.cons_cons _ (.cons_cons _ (.cons_cons _ (.cons_cons _ (.cons_cons _ (.refl _)))))))))))))
       refine ⟨hH6440, ?_⟩
       refine d_all (rs := [8]) (by kernel_rfl) (by simp) (fun j hj o ho => ?_)
       obtain rfl : j = 8 := by simpa using hj
       cases ho
       refine wl_store_box ty61 hS6439 rfl (v := .agg #[.slice _ _ _, .int .i64 _, .int .i64 _]) rfl (vs := [.slice _ _ _, .int .i64 _, .int .i64 _]) rfl rfl rfl .here (cs' := [.slice _ _ _, .int .i64 _, .int .i64 _]) rfl rfl ?_
       intro w6441 hS6442
       refine wl_nil ?_
       have hH6443 := hS6442.toHeld.mono (Mem.le_refl _) (List.Sublist.subset (.cons _ (.cons _ (.cons_cons _ (.cons_cons _ (.cons_cons _ (.cons_cons _ (.cons_cons _ (.cons_cons _ (.cons_cons _ (.cons_cons _ (.cons_cons _ (.refl _)))))))))))))
       refine ⟨hH6443, ?_⟩
       refine d_all (rs := [9]) (by kernel_rfl) (by simp) (fun j hj o ho => ?_)
       obtain rfl : j = 9 := by simpa using hj
       cases ho
       refine wl_store_box ty143 hS6442 rfl (v := .agg #[.bool _, .slice _ _ _, .int .i64 _]) rfl (vs := [.bool _, .slice _ _ _, .int .i64 _]) rfl rfl rfl (.there .here) (cs' := [.bool _, .slice _ _ _, .int .i64 _]) rfl rfl ?_
       intro w6444 hS6445
       refine wl_nil ?_
       have hH6446 := hS6445.toHeld.mono (Mem.le_refl _) (List.Sublist.subset (.cons _ (.cons _ (.cons_cons _ (.cons_cons _ (.cons_cons _ (.cons_cons _ (.cons_cons _ (.cons_cons _ (.cons_cons _ (.cons_cons _ (.cons_cons _ (.refl _)))))))))))))
       refine ⟨hH6446, ?_⟩
       refine d_end (by kernel_rfl) ?_
       have hS6447 := hS6445.front (.there (.there (.there (.there (.there (.there (.there (.there (.there (.there .here))))))))))
       have hS6448 := hS6447.front (.there (.there (.there (.there (.there (.there (.there (.there (.there (.there .here))))))))))
       have hS6449 := hS6448.front (.there (.there (.there (.there (.there (.there (.there (.there (.there (.there .here))))))))))
       have hS6450 := hS6449.front (.there (.there (.there (.there (.there (.there (.there (.there (.there (.there .here))))))))))
       have hS6451 := hS6450.front (.there (.there (.there (.there (.there (.there (.there (.there (.there (.there .here))))))))))
       have hS6452 := hS6451.front (.there (.there (.there (.there (.there (.there (.there (.there (.there (.there .here))))))))))
       have hS6453 := hS6452.front (.there (.there (.there (.there (.there (.there (.there (.there (.there (.there .here))))))))))
       have hS6454 := hS6453.front (.there (.there (.there (.there (.there (.there (.there (.there (.there (.there .here))))))))))
       have hS6455 := hS6454.front (.there (.there (.there (.there (.there (.there (.there (.there (.there (.there .here))))))))))
       have hS6456 := hS6455.front (.there (.there (.there (.there (.there (.there (.there (.there (.there .here)))))))))
       have hS6457 := hS6456.front (.there (.there (.there (.there (.there (.there (.there (.there (.there (.there .here))))))))))
       exact ⟨_, _, _, _, _, _, _, _, hr6437, hr6396, hS6457, rfl, rfl, rfl, rfl, rfl⟩
     ·cases ho
      refine wl_alloc ty61 rfl hS6390 ?_
      intro b6458 w6459 hS6460
      refine wl_nil ?_
      have hH6461 := hS6460.toHeld.mono (Mem.le_refl _) (List.Sublist.subset (.cons _ (.cons _ (.cons_cons _ (.cons_cons _ (.cons_cons _ (.cons_cons _ (.cons_cons _ (.cons_cons _ (.cons_cons _ (.cons_cons _ (.cons_cons _ (.refl _)))))))))))))
      refine ⟨hH6461, ?_⟩
      refine d_all (rs := [2]) (by kernel_rfl) (by simp) (fun j hj o ho => ?_)
      obtain rfl : j = 2 := by simpa using hj
      cases ho
      refine wl_call ent117 (vals := [.slice _ _ _, .int .i64 _]) rfl (cg117ro_0f hS6460 hrc27 (.there (.there (.there (.there (.there (.there (.there (.there (.there .here))))))))) hq6112) ?_
      rintro _ w6467 ⟨a6463, n6464, c6465, rfl, hr6466, hS6468⟩
      obtain rfl := hr6466.1
      refine wl_nil ?_
      have hH6469 := hS6468.toHeld.mono (Mem.le_refl _) (List.Sublist.subset (.cons _ (.cons _ (.cons_cons _ (.cons_cons _ (.cons_cons _ (.cons_cons _ (.cons_cons _ (.cons_cons _ (.cons_cons _ (.cons_cons _ (.cons_cons _ (.refl _)))))))))))))
      refine ⟨hH6469, ?_⟩
      refine d_all (rs := [5]) (by kernel_rfl) (by simp) (fun j hj o ho => ?_)
      obtain rfl : j = 5 := by simpa using hj
      cases ho
      refine wl_call ent118 (vals := [.slice _ _ _, .int .i64 _]) rfl (cg118ro_0f hS6468 hrc6096 (.there (.there (.there (.there (.there (.there (.there .here))))))) hq6122) ?_
      rintro _ w6475 ⟨a6471, n6472, c6473, rfl, hr6474, hS6476⟩
      obtain rfl := hr6474.1
      refine wl_nil ?_
      have hH6477 := hS6476.toHeld.mono (Mem.le_refl _) (List.Sublist.subset (.cons _ (.cons _ (.cons_cons _ (.cons_cons _ (.cons_cons _ (.cons_cons _ (.cons_cons _ (.cons_cons _ (.cons_cons _ (.cons_cons _ (.cons_cons _ (.refl _)))))))))))))
      refine ⟨hH6477, ?_⟩
      refine d_all (rs := [8]) (by kernel_rfl) (by simp) (fun j hj o ho => ?_)
      obtain rfl : j = 8 := by simpa using hj
      cases ho
      refine wl_store_box ty61 hS6476 rfl (v := .agg #[.slice _ _ _, .int .i64 _, .int .i64 _]) rfl (vs := [.slice _ _ _, .int .i64 _, .int .i64 _]) rfl rfl rfl .here (cs' := [.slice _ _ _, .int .i64 _, .int .i64 _]) rfl rfl ?_
      intro w6478 hS6479
      refine wl_nil ?_
      have hH6480 := hS6479.toHeld.mono (Mem.le_refl _) (List.Sublist.subset (.cons _ (.cons _ (.cons_cons _ (.cons_cons _ (.cons_cons _ (.cons_cons _ (.cons_cons _ (.cons_cons _ (.cons_cons _ (.cons_cons _ (.cons_cons _ (.refl _)))))))))))))
      refine ⟨hH6480, ?_⟩
      refine d_all (rs := [9]) (by kernel_rfl) (by simp) (fun j hj o ho => ?_)
      obtain rfl : j = 9 := by simpa using hj
      cases ho
      refine wl_store_box ty143 hS6479 rfl (v := .agg #[.bool _, .slice _ _ _, .int .i64 _]) rfl (vs := [.bool _, .slice _ _ _, .int .i64 _]) rfl rfl rfl (.there .here) (cs' := [.bool _, .slice _ _ _, .int .i64 _]) rfl rfl ?_
      intro w6481 hS6482
      refine wl_nil ?_
      have hH6483 := hS6482.toHeld.mono (Mem.le_refl _) (List.Sublist.subset (.cons _ (.cons _ (.cons_cons _ (.cons_cons _ (.cons_cons _ (.cons_cons _ (.cons_cons _ (.cons_cons _ (.cons_cons _ (.cons_cons _ (.cons_cons _ (.refl _)))))))))))))
      refine ⟨hH6483, ?_⟩
      refine d_end (by kernel_rfl) ?_
      have hS6484 := hS6482.front (.there (.there (.there (.there (.there (.there (.there (.there (.there (.there .here))))))))))
      have hS6485 := hS6484.front (.there (.there (.there (.there (.there (.there (.there (.there (.there (.there .here))))))))))
      have hS6486 := hS6485.front (.there (.there (.there (.there (.there (.there (.there (.there (.there (.there .here))))))))))
      have hS6487 := hS6486.front (.there (.there (.there (.there (.there (.there (.there (.there (.there (.there .here))))))))))
      have hS6488 := hS6487.front (.there (.there (.there (.there (.there (.there (.there (.there (.there (.there .here))))))))))
      have hS6489 := hS6488.front (.there (.there (.there (.there (.there (.there (.there (.there (.there (.there .here))))))))))
      have hS6490 := hS6489.front (.there (.there (.there (.there (.there (.there (.there (.there (.there (.there .here))))))))))
      have hS6491 := hS6490.front (.there (.there (.there (.there (.there (.there (.there (.there (.there (.there .here))))))))))
      have hS6492 := hS6491.front (.there (.there (.there (.there (.there (.there (.there (.there (.there (.there .here))))))))))
      have hS6493 := hS6492.front (.there (.there (.there (.there (.there (.there (.there (.there (.there .here)))))))))
      have hS6494 := hS6493.front (.there (.there (.there (.there (.there (.there (.there (.there (.there (.there .here))))))))))
      exact ⟨_, _, _, _, _, _, _, _, hr6474, hr6466, hS6494, rfl, rfl, rfl, rfl, rfl⟩
   ·rintro f6501 w6502 ⟨a6145, n6146, c6147, b6149, a6150, n6151, c6152, b6154, hr6148, hr6153, hS6495, e6496, e6497, e6498, e6499, e6500⟩
    obtain rfl := hr6148.1
    obtain rfl := hr6153.1
    refine c_know (t := 2) e6496 <| c_know (t := 4) e6497 <| c_know (t := 5) e6498 <| c_know (t := 8) e6499 <| c_know (t := 9) e6500 ?_
    clear e6496 e6497 e6498 e6499 e6500
    refine c_seq <| c_seq <| c_region <| wl_h hS6495.toHeld (r_fieldAddr fld61_0 (b := _) (o := _) rfl) <| wl_h hS6495.toHeld (r_box ty26 (k := 0) (.there .here) rfl rfl rfl (v := .slice _ _ _) rfl) ?_
    refine wl_h hS6495.toHeld (r_len Tryz.underlying26 (a := _) (n := _) (c := _) rfl) <| wl_h hS6495.toHeld (r_eql (a := _) (b := _) rfl rfl) <| wl_h hS6495.toHeld (r_move (v := .bool _) rfl) <| wl_split rfl (c := _) (t := 39) (fun h6503 => ?_) (fun h6503 => ?_)
    ·replace hM := bif_t h6503 hM
     refine wl_off (t := 39) (b := true) rfl rfl rfl ?_
     refine wl_off (t := 39) (b := true) rfl rfl rfl ?_
     refine wl_off (t := 39) (b := true) rfl rfl rfl ?_
     refine wl_h hS6495.toHeld (r_pick_t rfl (v := .bool _) rfl) <| wl_nil <| c_true rfl <| c_exit <| q_hit <| c_nil ?_
     have hS6504 := hS6495.weaken (.cons _ (.cons _ (.cons_cons _ (.cons_cons _ (.cons_cons _ (.cons_cons _ (.cons_cons _ (.cons_cons _ (.cons_cons _ (.cons_cons _ (.cons_cons _ (.refl _))))))))))))
     obtain rfl := some_eq hM
     refine ⟨_, _, hS6504, fun w6505 hS6506 => ?_⟩
     exact ⟨rfl, ⟨m6085, a6091, l6090.length, c6093, cs6094⟩, ⟨le6089, row_n (hS6504.toHeld.own (.there (.there (.there (.there (.there .here)))))) hrc6096 (by decide), hrc6096⟩, hS6506⟩
    ·replace hM := bif_f h6503 hM
     refine wl_on (t := 39) rfl rfl ?_
     refine wl_h hS6495.toHeld (r_fieldAddr fld143_0 (b := _) (o := _) rfl) <| wl_on (t := 39) rfl rfl ?_
     refine wl_h hS6495.toHeld (r_box ty4 (k := 0) .here rfl rfl rfl (v := .bool _) rfl) <| wl_on (t := 39) rfl rfl ?_
     refine wl_h hS6495.toHeld (r_not (b := _) rfl) <| wl_h hS6495.toHeld (r_pick_f rfl (v := .bool _) rfl) <| wl_nil <| c_cond (c := _) rfl (fun h6507 => ?_) (fun h6507 => ?_)
     ·replace hM := bif_t h6507 hM
      refine c_exit <| q_hit <| c_nil ?_
      have hS6508 := hS6495.weaken (.cons _ (.cons _ (.cons_cons _ (.cons_cons _ (.cons_cons _ (.cons_cons _ (.cons_cons _ (.cons_cons _ (.cons_cons _ (.cons_cons _ (.cons_cons _ (.refl _))))))))))))
      obtain rfl := some_eq hM
      refine ⟨_, _, hS6508, fun w6509 hS6510 => ?_⟩
      exact ⟨rfl, ⟨m6085, a6091, l6090.length, c6093, cs6094⟩, ⟨le6089, row_n (hS6508.toHeld.own (.there (.there (.there (.there (.there .here)))))) hrc6096 (by decide), hrc6096⟩, hS6510⟩
     ·replace hM := bif_f h6507 hM
      refine c_skip <| c_seq ?_
      obtain ⟨hc6513, hM⟩ := chk_ok hM
      obtain ⟨hc6514, hM⟩ := chk_ok hM
      obtain ⟨hc6521, hM⟩ := chk_ok hM
      have hH6548 := (hS6495.weaken (.cons_cons _ (.cons_cons _ (.cons_cons _ (.cons_cons _ (.cons_cons _ (.cons_cons _ (.cons_cons _ (.cons _ (.cons_cons _ (.cons _ (.cons_cons _ (.refl _))))))))))))).toHeld
      refine c_drawJ (k := 16) (fun f w => ∃ (b6541 : Nat) (a6542 : Option Addr) (n6543 : Nat) (c6544 : Nat) (cs6545 : List Value), n6543 = (([(⟨r6111.stops, r6111.leave, r6111.fin⟩ : Tour)] ++ r6121.tours)).length ∧ RCs 3 RTour m6085 cs6545 ([(⟨r6111.stops, r6111.leave, r6111.fin⟩ : Tour)] ++ r6121.tours) ∧ St w m6085 (.box b6541 143 [.bool true, .slice a6542 n6543 c6544, .int .i64 ((r6121.takes + r6111.fin) - r6111.leave)] :: .row (.slice a6542 n6543 c6544) 61 3 cs6545 :: .raw l4598 (.loop (busy q4598)) :: .raw D4598 (.deferred (some [])) :: .box b4595 3 [.int .i64 y4576] :: .box b4575 3 [.int .i64 y4576] :: .box b43 181 [.slice a6091 l6090.length c6093] :: .row (.slice a6091 l6090.length c6093) 143 3 cs6094 :: .box b32 178 [.slice a23 r19.length c25] :: .row (.slice a23 r19.length c25) 61 3 cs26 :: .box b16 143 [.bool false, .slice none 0 0, .int .i64 0] :: ((dfrs ds4584 ++ L) ++ E)) ∧ f 2 = .pointer (some ⟨b16, 0, none⟩) ∧ f 4 = .pointer (some ⟨b43, 0, none⟩) ∧ f 5 = .pointer (some ⟨b4575, 0, none⟩) ∧ f 10 = .pointer (some ⟨b6541, 0, none⟩)) (fun w => Held w m6085 (.box b6149 143 [.bool r6121.ok, .slice a6145 r6121.tours.length c6147, .int .i64 r6121.takes] :: .box b6154 61 [.slice a6150 r6111.stops.length c6152, .int .i64 r6111.leave, .int .i64 r6111.fin] :: .raw l4598 (.loop (busy q4598)) :: .raw D4598 (.deferred (some [])) :: .box b4595 3 [.int .i64 y4576] :: .box b4575 3 [.int .i64 y4576] :: .box b43 181 [.slice a6091 l6090.length c6093] :: .box b32 178 [.slice a23 r19.length c25] :: .box b16 143 [.bool false, .slice none 0 0, .int .i64 0] :: ((dfrs ds4584 ++ L) ++ E))) mixed rfl ?_ ?_
      ·replace hH6548 := hH6548.drew1
       have hS6549 := hS6495.drew1
       refine d_v (i := 0) rfl (by kernel_rfl) rfl (r_box ty61 (k := 0) (.there .here) rfl rfl rfl (v := .agg #[.slice _ _ _, .int .i64 _, .int .i64 _]) rfl) hH6548 ?_
       refine d_v (i := 2) rfl (by kernel_rfl) rfl (r_fieldAddr fld143_1 (b := _) (o := _) rfl) hH6548 ?_
       refine d_v (i := 3) rfl (by kernel_rfl) rfl (r_box ty77 (k := 1) .here rfl rfl rfl (v := .slice _ _ _) rfl) hH6548 ?_
       refine d_v (i := 5) rfl (by kernel_rfl) rfl (r_fieldAddr fld143_2 (b := _) (o := _) rfl) hH6548 ?_
       refine d_v (i := 6) rfl (by kernel_rfl) rfl (r_box ty3 (k := 2) .here rfl rfl rfl (v := .int .i64 _) rfl) hH6548 ?_
       refine d_v (i := 7) rfl (by kernel_rfl) rfl (r_fieldAddr fld61_2 (b := _) (o := _) rfl) hH6548 ?_
       refine d_v (i := 8) rfl (by kernel_rfl) rfl (r_box ty3 (k := 2) (.there .here) rfl rfl rfl (v := .int .i64 _) rfl) hH6548 ?_
       refine d_v (i := 9) rfl (by kernel_rfl) rfl (r_add (a := _) (b := _) rfl rfl (ok_lo hc6513) (ok_hi hc6513)) hH6548 ?_
       refine d_v (i := 10) rfl (by kernel_rfl) rfl (r_fieldAddr fld61_1 (b := _) (o := _) rfl) hH6548 ?_
       refine d_v (i := 11) rfl (by kernel_rfl) rfl (r_box ty3 (k := 1) (.there .here) rfl rfl rfl (v := .int .i64 _) rfl) hH6548 ?_
       refine d_v (i := 12) rfl (by kernel_rfl) rfl (r_sub (a := _) (b := _) rfl rfl (ok_lo hc6514) (ok_hi hc6514)) hH6548 ?_
       refine d_all (rs := [1, 14]) (by kernel_rfl) (by simp) (fun j hj o ho => ?_)
       simp only [List.mem_cons, List.not_mem_nil, or_false] at hj
       rcases hj with rfl | rfl
       ·cases ho
        refine wl_buildSlice Tryz.underlying77 ty61 rfl (by decide) (by decide) hS6549 (ps := [(0, [.slice _ _ _, .int .i64 _, .int .i64 _])]) rfl rfl (cs := [.slice _ _ _, .int .i64 _, .int .i64 _]) rfl rfl (by decide) ?_
        intro b6551 w6552 hS6553
        have hrc6554 : RCs 3 RTour m6085 [.slice a6150 r6111.stops.length c6152, .int .i64 r6111.leave, .int .i64 r6111.fin] ([(⟨r6111.stops, r6111.leave, r6111.fin⟩ : Tour)] : List Tour) := (RCs.cons (d := [.slice a6150 r6111.stops.length c6152, .int .i64 r6111.leave, .int .i64 r6111.fin]) rfl ⟨_, _, _, rfl, hr6153⟩ RCs.nil)
        refine wl_nil ?_
        have hH6555 := hS6553.toHeld.mono (Mem.le_refl _) (List.Sublist.subset (.cons _ (.cons_cons _ (.cons_cons _ (.cons_cons _ (.cons_cons _ (.cons_cons _ (.cons_cons _ (.cons_cons _ (.cons _ (.cons_cons _ (.cons _ (.cons_cons _ (.refl _))))))))))))))
        refine ⟨hH6555, ?_⟩
        refine d_all (rs := [4, 14]) (by kernel_rfl) (by simp) (fun j hj o ho => ?_)
        simp only [List.mem_cons, List.not_mem_nil, or_false] at hj
        rcases hj with rfl | rfl
        ·cases ho
         obtain ⟨cs6556, hq6557, hrc6558⟩ := RSl.cells RTour.one (by decide) hr6148 hS6553.toHeld
         refine wl_append_src Tryz.underlying77 ty61 rfl (by decide) hS6553 (a := _) (nn := _) (c := _) rfl (a2 := _) (k2 := _) (c2 := _) rfl .here hq6557 (lim_b hc6521 rfl) (lim_a hc6521) ?_
         intro a6559 c6560 w6561 hS6562
         have hrc6564 := RCs.append hrc6554 hrc6558
         generalize [.slice a6150 r6111.stops.length c6152, .int .i64 r6111.leave, .int .i64 r6111.fin] ++ cs6556 = cs6565 at hS6562 hrc6564
         refine wl_nil ?_
         have hH6566 := hS6562.toHeld.mono (Mem.le_refl _) (List.Sublist.subset (.cons _ (.cons_cons _ (.cons_cons _ (.cons_cons _ (.cons_cons _ (.cons_cons _ (.cons_cons _ (.cons_cons _ (.cons _ (.cons_cons _ (.cons _ (.cons_cons _ (.refl _))))))))))))))
         refine ⟨hH6566, ?_⟩
         refine d_v (i := 13) rfl (by kernel_rfl) rfl (r_build ty143 st143 (ps := [(0, [.bool _]), (1, [.slice _ _ _]), (2, [.int .i64 _])]) rfl rfl (cs := [.bool _, .slice _ _ _, .int .i64 _]) rfl) hH6566 ?_
         refine d_all (rs := [14]) (by kernel_rfl) (by simp) (fun j hj o ho => ?_)
         obtain rfl : j = 14 := by simpa using hj
         cases ho
         refine wl_alloc ty143 rfl hS6562 ?_
         intro b6567 w6568 hS6569
         refine wl_nil ?_
         have hH6570 := hS6569.toHeld.mono (Mem.le_refl _) (List.Sublist.subset (.cons _ (.cons _ (.cons_cons _ (.cons_cons _ (.cons_cons _ (.cons_cons _ (.cons_cons _ (.cons_cons _ (.cons_cons _ (.cons _ (.cons_cons _ (.cons _ (.cons_cons _ (.refl _)))))))))))))))
         refine ⟨hH6570, ?_⟩
         refine d_all (rs := [15]) (by kernel_rfl) (by simp) (fun j hj o ho => ?_)
         obtain rfl : j = 15 := by simpa using hj
         cases ho
         refine wl_store_box ty143 hS6569 rfl (v := .agg #[.bool _, .slice _ _ _, .int .i64 _]) rfl (vs := [.bool _, .slice _ _ _, .int .i64 _]) rfl rfl rfl .here (cs' := [.bool _, .slice _ _ _, .int .i64 _]) rfl rfl ?_
         intro w6571 hS6572
         refine wl_nil ?_
         have hH6573 := hS6572.toHeld.mono (Mem.le_refl _) (List.Sublist.subset (.cons _ (.cons _ (.cons_cons _ (.cons_cons _ (.cons_cons _ (.cons_cons _ (.cons_cons _ (.cons_cons _ (.cons_cons _ (.cons _ (.cons_cons _ (.cons _ (.cons_cons _ (.refl _)))))))))))))))
         refine ⟨hH6573, ?_⟩
         refine d_end (by kernel_rfl) ?_
         have hS6574 := hS6572.weaken (.cons_cons _ (.cons_cons _ (.cons _ (.cons _ (.cons_cons _ (.cons_cons _ (.cons_cons _ (.cons_cons _ (.cons_cons _ (.cons_cons _ (.cons_cons _ (.cons_cons _ (.cons_cons _ (.refl _))))))))))))))
         exact ⟨_, _, _, _, _, row_n (hS6574.toHeld.own (.there .here)) hrc6564 (by decide), hrc6564, hS6574, rfl, rfl, rfl, rfl⟩
        ·cases ho
         refine wl_alloc ty143 rfl hS6553 ?_
         intro b6575 w6576 hS6577
         refine wl_nil ?_
         have hH6578 := hS6577.toHeld.mono (Mem.le_refl _) (List.Sublist.subset (.cons _ (.cons _ (.cons_cons _ (.cons_cons _ (.cons_cons _ (.cons_cons _ (.cons_cons _ (.cons_cons _ (.cons_cons _ (.cons _ (.cons_cons _ (.cons _ (.cons_cons _ (.refl _)))))))))))))))
         refine ⟨hH6578, ?_⟩
         refine d_all (rs := [4]) (by kernel_rfl) (by simp) (fun j hj o ho => ?_)
         obtain rfl : j = 4 := by simpa using hj
         cases ho
         obtain ⟨cs6579, hq6580, hrc6581⟩ := RSl.cells RTour.one (by decide) hr6148 hS6577.toHeld
         refine wl_append_src Tryz.underlying77 ty61 rfl (by decide) hS6577 (a := _) (nn := _) (c := _) rfl (a2 := _) (k2 := _) (c2 := _) rfl (.there .here) hq6580 (lim_b hc6521 rfl) (lim_a hc6521) ?_
         intro a6582 c6583 w6584 hS6585
         have hrc6587 := RCs.append hrc6554 hrc6581
         generalize [.slice a6150 r6111.stops.length c6152, .int .i64 r6111.leave, .int .i64 r6111.fin] ++ cs6579 = cs6588 at hS6585 hrc6587
         refine wl_nil ?_
         have hH6589 := hS6585.toHeld.mono (Mem.le_refl _) (List.Sublist.subset (.cons _ (.cons _ (.cons_cons _ (.cons_cons _ (.cons_cons _ (.cons_cons _ (.cons_cons _ (.cons_cons _ (.cons_cons _ (.cons _ (.cons_cons _ (.cons _ (.cons_cons _ (.refl _)))))))))))))))
         refine ⟨hH6589, ?_⟩
         refine d_v (i := 13) rfl (by kernel_rfl) rfl (r_build ty143 st143 (ps := [(0, [.bool _]), (1, [.slice _ _ _]), (2, [.int .i64 _])]) rfl rfl (cs := [.bool _, .slice _ _ _, .int .i64 _]) rfl) hH6589 ?_
         refine d_all (rs := [15]) (by kernel_rfl) (by simp) (fun j hj o ho => ?_)
         obtain rfl : j = 15 := by simpa using hj
         cases ho
         refine wl_store_box ty143 hS6585 rfl (v := .agg #[.bool _, .slice _ _ _, .int .i64 _]) rfl (vs := [.bool _, .slice _ _ _, .int .i64 _]) rfl rfl rfl (.there .here) (cs' := [.bool _, .slice _ _ _, .int .i64 _]) rfl rfl ?_
         intro w6590 hS6591
         refine wl_nil ?_
         have hH6592 := hS6591.toHeld.mono (Mem.le_refl _) (List.Sublist.subset (.cons _ (.cons _ (.cons_cons _ (.cons_cons _ (.cons_cons _ (.cons_cons _ (.cons_cons _ (.cons_cons _ (.cons_cons _ (.cons _ (.cons_cons _ (.cons _ (.cons_cons _ (.refl _)))))))))))))))
         refine ⟨hH6592, ?_⟩
         refine d_end (by kernel_rfl) ?_
         have hS6593 := hS6591.weaken (.cons_cons _ (.cons_cons _ (.cons _ (.cons _ (.cons_cons _ (.cons_cons _ (.cons_cons _ (.cons_cons _ (.cons_cons _ (.cons_cons _ (.cons_cons _ (.cons_cons _ (.cons_cons _ (.refl _))))))))))))))
         have hS6594 := hS6593.front (.there (.there (.there (.there (.there (.there (.there (.there (.there (.there .here))))))))))
         have hS6595 := hS6594.front (.there (.there (.there (.there (.there (.there (.there (.there (.there (.there .here))))))))))
         have hS6596 := hS6595.front (.there (.there (.there (.there (.there (.there (.there (.there (.there (.there .here))))))))))
         have hS6597 := hS6596.front (.there (.there (.there (.there (.there (.there (.there (.there (.there (.there .here))))))))))
         have hS6598 := hS6597.front (.there (.there (.there (.there (.there (.there (.there (.there (.there (.there .here))))))))))
         have hS6599 := hS6598.front (.there (.there (.there (.there (.there (.there (.there (.there (.there (.there .here))))))))))
         have hS6600 := hS6599.front (.there (.there (.there (.there (.there (.there (.there (.there (.there (.there .here))))))))))
         have hS6601 := hS6600.front (.there (.there (.there (.there (.there (.there (.there (.there (.there (.there .here))))))))))
         have hS6602 := hS6601.front (.there (.there (.there (.there (.there (.there (.there (.there (.there (.there .here))))))))))
         have hS6603 := hS6602.front (.there (.there (.there (.there (.there (.there (.there (.there (.there .here)))))))))
         have hS6604 := hS6603.front (.there (.there (.there (.there (.there (.there (.there (.there (.there (.there .here))))))))))
         exact ⟨_, _, _, _, _, row_n (hS6604.toHeld.own (.there .here)) hrc6587 (by decide), hrc6587, hS6604, rfl, rfl, rfl, rfl⟩
       ·cases ho
        refine wl_alloc ty143 rfl hS6549 ?_
        intro b6605 w6606 hS6607
        refine wl_nil ?_
        have hH6608 := hS6607.toHeld.mono (Mem.le_refl _) (List.Sublist.subset (.cons _ (.cons_cons _ (.cons_cons _ (.cons_cons _ (.cons_cons _ (.cons_cons _ (.cons_cons _ (.cons_cons _ (.cons _ (.cons_cons _ (.cons _ (.cons_cons _ (.refl _))))))))))))))
        refine ⟨hH6608, ?_⟩
        refine d_all (rs := [1]) (by kernel_rfl) (by simp) (fun j hj o ho => ?_)
        obtain rfl : j = 1 := by simpa using hj
        cases ho
        refine wl_buildSlice Tryz.underlying77 ty61 rfl (by decide) (by decide) hS6607 (ps := [(0, [.slice _ _ _, .int .i64 _, .int .i64 _])]) rfl rfl (cs := [.slice _ _ _, .int .i64 _, .int .i64 _]) rfl rfl (by decide) ?_
        intro b6610 w6611 hS6612
        have hrc6613 : RCs 3 RTour m6085 [.slice a6150 r6111.stops.length c6152, .int .i64 r6111.leave, .int .i64 r6111.fin] ([(⟨r6111.stops, r6111.leave, r6111.fin⟩ : Tour)] : List Tour) := (RCs.cons (d := [.slice a6150 r6111.stops.length c6152, .int .i64 r6111.leave, .int .i64 r6111.fin]) rfl ⟨_, _, _, rfl, hr6153⟩ RCs.nil)
        refine wl_nil ?_
        have hH6614 := hS6612.toHeld.mono (Mem.le_refl _) (List.Sublist.subset (.cons _ (.cons _ (.cons_cons _ (.cons_cons _ (.cons_cons _ (.cons_cons _ (.cons_cons _ (.cons_cons _ (.cons_cons _ (.cons _ (.cons_cons _ (.cons _ (.cons_cons _ (.refl _)))))))))))))))
        refine ⟨hH6614, ?_⟩
        refine d_all (rs := [4]) (by kernel_rfl) (by simp) (fun j hj o ho => ?_)
        obtain rfl : j = 4 := by simpa using hj
        cases ho
        obtain ⟨cs6615, hq6616, hrc6617⟩ := RSl.cells RTour.one (by decide) hr6148 hS6612.toHeld
        refine wl_append_src Tryz.underlying77 ty61 rfl (by decide) hS6612 (a := _) (nn := _) (c := _) rfl (a2 := _) (k2 := _) (c2 := _) rfl .here hq6616 (lim_b hc6521 rfl) (lim_a hc6521) ?_
        intro a6618 c6619 w6620 hS6621
        have hrc6623 := RCs.append hrc6613 hrc6617
        generalize [.slice a6150 r6111.stops.length c6152, .int .i64 r6111.leave, .int .i64 r6111.fin] ++ cs6615 = cs6624 at hS6621 hrc6623
        refine wl_nil ?_
        have hH6625 := hS6621.toHeld.mono (Mem.le_refl _) (List.Sublist.subset (.cons _ (.cons _ (.cons_cons _ (.cons_cons _ (.cons_cons _ (.cons_cons _ (.cons_cons _ (.cons_cons _ (.cons_cons _ (.cons _ (.cons_cons _ (.cons _ (.cons_cons _ (.refl _)))))))))))))))
        refine ⟨hH6625, ?_⟩
        refine d_v (i := 13) rfl (by kernel_rfl) rfl (r_build ty143 st143 (ps := [(0, [.bool _]), (1, [.slice _ _ _]), (2, [.int .i64 _])]) rfl rfl (cs := [.bool _, .slice _ _ _, .int .i64 _]) rfl) hH6625 ?_
        refine d_all (rs := [15]) (by kernel_rfl) (by simp) (fun j hj o ho => ?_)
        obtain rfl : j = 15 := by simpa using hj
        cases ho
        refine wl_store_box ty143 hS6621 rfl (v := .agg #[.bool _, .slice _ _ _, .int .i64 _]) rfl (vs := [.bool _, .slice _ _ _, .int .i64 _]) rfl rfl rfl (.there .here) (cs' := [.bool _, .slice _ _ _, .int .i64 _]) rfl rfl ?_
        intro w6626 hS6627
        refine wl_nil ?_
        have hH6628 := hS6627.toHeld.mono (Mem.le_refl _) (List.Sublist.subset (.cons _ (.cons _ (.cons_cons _ (.cons_cons _ (.cons_cons _ (.cons_cons _ (.cons_cons _ (.cons_cons _ (.cons_cons _ (.cons _ (.cons_cons _ (.cons _ (.cons_cons _ (.refl _)))))))))))))))
        refine ⟨hH6628, ?_⟩
        refine d_end (by kernel_rfl) ?_
        have hS6629 := hS6627.weaken (.cons_cons _ (.cons_cons _ (.cons _ (.cons _ (.cons_cons _ (.cons_cons _ (.cons_cons _ (.cons_cons _ (.cons_cons _ (.cons_cons _ (.cons_cons _ (.cons_cons _ (.cons_cons _ (.refl _))))))))))))))
        have hS6630 := hS6629.front (.there (.there (.there (.there (.there (.there (.there (.there (.there (.there .here))))))))))
        have hS6631 := hS6630.front (.there (.there (.there (.there (.there (.there (.there (.there (.there (.there .here))))))))))
        have hS6632 := hS6631.front (.there (.there (.there (.there (.there (.there (.there (.there (.there (.there .here))))))))))
        have hS6633 := hS6632.front (.there (.there (.there (.there (.there (.there (.there (.there (.there (.there .here))))))))))
        have hS6634 := hS6633.front (.there (.there (.there (.there (.there (.there (.there (.there (.there (.there .here))))))))))
        have hS6635 := hS6634.front (.there (.there (.there (.there (.there (.there (.there (.there (.there (.there .here))))))))))
        have hS6636 := hS6635.front (.there (.there (.there (.there (.there (.there (.there (.there (.there (.there .here))))))))))
        have hS6637 := hS6636.front (.there (.there (.there (.there (.there (.there (.there (.there (.there (.there .here))))))))))
        have hS6638 := hS6637.front (.there (.there (.there (.there (.there (.there (.there (.there (.there (.there .here))))))))))
        have hS6639 := hS6638.front (.there (.there (.there (.there (.there (.there (.there (.there (.there .here)))))))))
        have hS6640 := hS6639.front (.there (.there (.there (.there (.there (.there (.there (.there (.there (.there .here))))))))))
        exact ⟨_, _, _, _, _, row_n (hS6640.toHeld.own (.there .here)) hrc6623 (by decide), hrc6623, hS6640, rfl, rfl, rfl, rfl⟩
      ·rintro f6646 w6647 ⟨b6541, a6542, n6543, c6544, cs6545, hn6546, hrc6547, hS6641, e6642, e6643, e6644, e6645⟩
       subst hn6546
       refine c_know (t := 2) e6642 <| c_know (t := 4) e6643 <| c_know (t := 5) e6644 <| c_know (t := 10) e6645 ?_
       clear e6642 e6643 e6644 e6645
       refine c_seq ?_
       have hH6762 := (hS6641.weaken (.cons_cons _ (.cons_cons _ (.cons_cons _ (.cons_cons _ (.cons_cons _ (.cons_cons _ (.cons _ (.cons _ (.cons_cons _ (.cons_cons _ (.cons_cons _ (.refl _))))))))))))).toHeld
       refine c_draw (k := 14) (fun w => Held w m6085 (.box b6541 143 [.bool true, .slice a6542 ((([(⟨r6111.stops, r6111.leave, r6111.fin⟩ : Tour)] ++ r6121.tours)).length) c6544, .int .i64 ((r6121.takes + r6111.fin) - r6111.leave)] :: .row (.slice a6542 ((([(⟨r6111.stops, r6111.leave, r6111.fin⟩ : Tour)] ++ r6121.tours)).length) c6544) 61 3 cs6545 :: .raw l4598 (.loop (busy q4598)) :: .raw D4598 (.deferred (some [])) :: .box b4595 3 [.int .i64 y4576] :: .box b4575 3 [.int .i64 y4576] :: .box b32 178 [.slice a23 r19.length c25] :: .row (.slice a23 r19.length c25) 61 3 cs26 :: .box b16 143 [.bool false, .slice none 0 0, .int .i64 0] :: ((dfrs ds4584 ++ L) ++ E))) mixed rfl ?_
       replace hH6762 := hH6762.drew1
       have hS6763 := hS6641.drew1
       refine d_v (i := 1) rfl (by kernel_rfl) rfl (r_box ty3 (k := 0) (.there (.there (.there (.there (.there .here))))) rfl rfl rfl (v := .int .i64 _) rfl) hH6762 ?_
       refine d_all (rs := [0]) (by kernel_rfl) (by simp) (fun j hj o ho => ?_)
       obtain rfl : j = 0 := by simpa using hj
       cases ho
       refine wl_h hS6763.toHeld (r_box ty181 (k := 0) (.there (.there (.there (.there (.there (.there .here)))))) rfl rfl rfl (v := .slice _ _ _) rfl) <| wl_nil ?_
       have hH6764 := hS6763.toHeld.mono (Mem.le_refl _) (List.Sublist.subset (.cons_cons _ (.cons_cons _ (.cons_cons _ (.cons_cons _ (.cons_cons _ (.cons_cons _ (.cons _ (.cons _ (.cons_cons _ (.cons_cons _ (.cons_cons _ (.refl _)))))))))))))
       refine ⟨hH6764, ?_⟩
       obtain ⟨x6765, hx6766, h6767, h6768, hM⟩ := getK_ok hM
       obtain ⟨b6769, rfl⟩ := row_some (hS6763.toHeld.own (.there (.there (.there (.there (.there (.there (.there .here)))))))) hrc6096 (by decide) h6767 h6768
       obtain ⟨es6770, hes6771, hR6772⟩ := row_read hrc6096 hx6766
       have hk6777 := hR6772
       obtain ⟨a6773, n6774, c6775, rfl, hr6776⟩ := hR6772
       have hr6778 := Fresh.rsl hr6776
       obtain rfl := hr6778.1
       refine d_v (i := 2) rfl (by kernel_rfl) rfl (r_indexAddr Tryz.underlying181 ty143 (b := _) (o := _) (n := _) (c := _) (i := y4576) rfl rfl h6767 (row_lt (hS6763.toHeld.own (.there (.there (.there (.there (.there (.there (.there .here)))))))) hrc6096 (by decide) h6768)) hH6764 ?_
       refine d_v (i := 3) rfl (by kernel_rfl) rfl (r_fieldAddr fld143_0 (b := _) (o := _) rfl) hH6764 ?_
       refine d_all (rs := [4]) (by kernel_rfl) (by simp) (fun j hj o ho => ?_)
       obtain rfl : j = 4 := by simpa using hj
       cases ho
       refine wl_h hS6763.toHeld (r_row ty4 (k := 0) (i := y4576.toNat) (.there (.there (.there (.there (.there (.there (.there .here))))))) rfl rfl (row_room hrc6096 hx6766) hes6771 rfl (v := .bool _) rfl) <| wl_nil ?_
       have hH6779 := hS6763.toHeld.mono (Mem.le_refl _) (List.Sublist.subset (.cons_cons _ (.cons_cons _ (.cons_cons _ (.cons_cons _ (.cons_cons _ (.cons_cons _ (.cons _ (.cons _ (.cons_cons _ (.cons_cons _ (.cons_cons _ (.refl _)))))))))))))
       refine ⟨hH6779, ?_⟩
       refine d_v (i := 5) rfl (by kernel_rfl) rfl (r_not (b := _) rfl) hH6779 ?_
       refine d_v (i := 6) rfl (by kernel_rfl) rfl (r_move (v := .bool _) rfl) hH6779 ?_
       refine d_split (t := 64) (c := _) rfl (fun h6780 => ?_) (fun h6780 => ?_)
       ·replace hM := bif_t h6780 hM
        refine d_off (i := 7) rfl (by kernel_rfl) rfl (t := 64) (b := true) rfl rfl rfl hH6779 ?_
        refine d_off (i := 8) rfl (by kernel_rfl) rfl (t := 64) (b := true) rfl rfl rfl hH6779 ?_
        refine d_off (i := 9) rfl (by kernel_rfl) rfl (t := 64) (b := true) rfl rfl rfl hH6779 ?_
        refine d_off (i := 10) rfl (by kernel_rfl) rfl (t := 64) (b := true) rfl rfl rfl hH6779 ?_
        refine d_off (i := 11) rfl (by kernel_rfl) rfl (t := 64) (b := true) rfl rfl rfl hH6779 ?_
        refine d_off (i := 12) rfl (by kernel_rfl) rfl (t := 64) (b := true) rfl rfl rfl hH6779 ?_
        refine d_v (i := 13) rfl (by kernel_rfl) rfl (r_pick_t rfl (v := .bool _) rfl) hH6779 ?_
        refine d_end (by kernel_rfl) ?_
        refine c_true rfl <| c_region <| wl_h hS6763.toHeld (r_box ty181 (k := 0) (.there (.there (.there (.there (.there (.there .here)))))) rfl rfl rfl (v := .slice _ _ _) rfl) <| wl_h hS6763.toHeld (r_box ty3 (k := 0) (.there (.there (.there (.there (.there .here))))) rfl rfl rfl (v := .int .i64 _) rfl) <| wl_h hS6763.toHeld (r_box ty143 (k := 0) .here rfl rfl rfl (v := .agg #[.bool _, .slice _ _ _, .int .i64 _]) rfl) ?_
        obtain ⟨x6781, hx6782, h6783, h6784, hM⟩ := getK_ok hM
        obtain ⟨es6785, hes6786, hR6787⟩ := row_read hrc6096 hx6782
        have hk6792 := hR6787
        obtain ⟨a6788, n6789, c6790, rfl, hr6791⟩ := hR6787
        have hr6793 := Fresh.rsl hr6791
        obtain rfl := hr6793.1
        refine wl_h hS6763.toHeld (r_indexAddr Tryz.underlying181 ty143 (b := _) (o := _) (n := _) (c := _) (i := y4576) rfl rfl h6783 (row_lt (hS6763.toHeld.own (.there (.there (.there (.there (.there (.there (.there .here)))))))) hrc6096 (by decide) h6784)) ?_
        obtain ⟨m6794, hm6795, hS6796, hF6798⟩ := hS6763.freezeF (.there .here) hrc6547 RTour.mono (by decide) le6087
        have hr6797 := Fresh.rsl hF6798
        have le6799 := Mem.le_trans le6087 hm6795
        have le6800 := Mem.le_trans le6088 hm6795
        have le6801 := Mem.le_trans le6089 hm6795
        have le6802 := hm6795
        replace hk12 := RFleet.mono _ _ _ _ hk12 hm6795
        replace hr7 := RSl.mono RStop.mono hr7 hm6795
        replace hr11 := RSl.mono (RS.mono RInt.mono) hr11 hm6795
        replace hrc27 := RCs.mono RTour.mono hrc27 hm6795
        replace hrc42 := RCs.mono RPlanF.mono hrc42 hm6795
        replace hk59 := RPlanF.mono _ _ _ _ hk59 hm6795
        replace hr58 := Fresh.mono RTour.mono hr58 hm6795
        replace hr60 := RSl.mono RTour.mono hr60 hm6795
        replace hrc63 := RCs.mono RPlanF.mono hrc63 hm6795
        replace hrc4583 := RCs.mono RPlanF.mono hrc4583 hm6795
        replace hrc6096 := RCs.mono RPlanF.mono hrc6096 hm6795
        replace hr6148 := RSl.mono RTour.mono hr6148 hm6795
        replace hr6153 := RSl.mono RInt.mono hr6153 hm6795
        replace hrc6547 := RCs.mono RTour.mono hrc6547 hm6795
        replace hk6777 := RPlanF.mono _ _ _ _ hk6777 hm6795
        replace hr6776 := Fresh.mono RTour.mono hr6776 hm6795
        replace hr6778 := RSl.mono RTour.mono hr6778 hm6795
        replace hk6792 := RPlanF.mono _ _ _ _ hk6792 hm6795
        replace hr6791 := Fresh.mono RTour.mono hr6791 hm6795
        replace hr6793 := RSl.mono RTour.mono hr6793 hm6795
        refine wl_store_row ty143 hS6796 rfl (v := .agg #[.bool _, .slice _ _ _, .int .i64 _]) rfl (vs := [.bool _, .slice _ _ _, .int .i64 _]) rfl rfl rfl (.there (.there (.there (.there (.there (.there .here)))))) (Nat.le_trans (by simp only [Nat.zero_add]; omega) (row_room hrc6096 hx6782)) ?_
        intro w6803 hS6804
        have hrc6805 := RCs.seti hrc6096 hx6782 (vs := [.bool true, .slice a6542 ((([(⟨r6111.stops, r6111.leave, r6111.fin⟩ : Tour)] ++ r6121.tours)).length) c6544, .int .i64 ((r6121.takes + r6111.fin) - r6111.leave)]) (y := (⟨true, ([(⟨r6111.stops, r6111.leave, r6111.fin⟩ : Tour)] ++ r6121.tours), (r6121.takes + r6111.fin) - r6111.leave⟩ : Plan)) rfl ⟨_, _, _, rfl, hF6798⟩
        generalize spl cs6094 (0 + y4576.toNat * 3) [.bool true, .slice a6542 ((([(⟨r6111.stops, r6111.leave, r6111.fin⟩ : Tour)] ++ r6121.tours)).length) c6544, .int .i64 ((r6121.takes + r6111.fin) - r6111.leave)] = cs6806 at hS6804 hrc6805
        refine wl_nil <| c_nil <| q_norm <| c_nil ?_
        have hS6807 := hS6804.weaken (.cons _ (.cons_cons _ (.cons_cons _ (.cons_cons _ (.cons_cons _ (.cons_cons _ (.cons_cons _ (.cons_cons _ (.cons_cons _ (.cons_cons _ (.refl _)))))))))))
        obtain rfl := some_eq hM
        refine ⟨_, _, hS6807, fun w6808 hS6809 => ?_⟩
        exact ⟨rfl, ⟨m6794, (some ⟨b6769, 0, none⟩), l6090.length, c6093, cs6806⟩, ⟨le6801, row_n (hS6807.toHeld.own (.there (.there (.there (.there (.there .here)))))) hrc6805 (by decide), hrc6805⟩, hS6809⟩
       ·replace hM := bif_f h6780 hM
        refine d_on (i := 7) rfl (by kernel_rfl) rfl (t := 64) rfl rfl (r_box ty143 (k := 0) .here rfl rfl rfl (v := .agg #[.bool _, .slice _ _ _, .int .i64 _]) rfl) hH6779 ?_
        refine d_on (i := 9) rfl (by kernel_rfl) rfl (t := 64) rfl rfl (r_box ty3 (k := 0) (.there (.there (.there (.there (.there .here))))) rfl rfl rfl (v := .int .i64 _) rfl) hH6779 ?_
        refine d_all (rs := [8]) (by kernel_rfl) (by simp) (fun j hj o ho => ?_)
        obtain rfl : j = 8 := by simpa using hj
        cases ho
        refine wl_on (t := 64) rfl rfl ?_
        refine wl_h hS6763.toHeld (r_box ty181 (k := 0) (.there (.there (.there (.there (.there (.there .here)))))) rfl rfl rfl (v := .slice _ _ _) rfl) <| wl_nil ?_
        have hH6810 := hS6763.toHeld.mono (Mem.le_refl _) (List.Sublist.subset (.cons_cons _ (.cons_cons _ (.cons_cons _ (.cons_cons _ (.cons_cons _ (.cons_cons _ (.cons _ (.cons _ (.cons_cons _ (.cons_cons _ (.cons_cons _ (.refl _)))))))))))))
        refine ⟨hH6810, ?_⟩
        obtain ⟨x6811, hx6812, h6813, h6814, hM⟩ := getK_ok hM
        obtain ⟨es6815, hes6816, hR6817⟩ := row_read hrc6096 hx6812
        have hk6822 := hR6817
        obtain ⟨a6818, n6819, c6820, rfl, hr6821⟩ := hR6817
        have hr6823 := Fresh.rsl hr6821
        obtain rfl := hr6823.1
        refine d_on (i := 10) rfl (by kernel_rfl) rfl (t := 64) rfl rfl (r_indexAddr Tryz.underlying181 ty143 (b := _) (o := _) (n := _) (c := _) (i := y4576) rfl rfl h6813 (row_lt (hS6763.toHeld.own (.there (.there (.there (.there (.there (.there (.there .here)))))))) hrc6096 (by decide) h6814)) hH6810 ?_
        refine d_all (rs := [11]) (by kernel_rfl) (by simp) (fun j hj o ho => ?_)
        obtain rfl : j = 11 := by simpa using hj
        cases ho
        refine wl_on (t := 64) rfl rfl ?_
        refine wl_h hS6763.toHeld (r_row ty143 (k := 0) (i := y4576.toNat) (.there (.there (.there (.there (.there (.there (.there .here))))))) rfl rfl (row_room hrc6096 hx6812) hes6816 rfl (v := .agg #[.bool _, .slice _ _ _, .int .i64 _]) rfl) <| wl_nil ?_
        have hH6824 := hS6763.toHeld.mono (Mem.le_refl _) (List.Sublist.subset (.cons_cons _ (.cons_cons _ (.cons_cons _ (.cons_cons _ (.cons_cons _ (.cons_cons _ (.cons _ (.cons _ (.cons_cons _ (.cons_cons _ (.cons_cons _ (.refl _)))))))))))))
        refine ⟨hH6824, ?_⟩
        refine d_all (rs := [12]) (by kernel_rfl) (by simp) (fun j hj o ho => ?_)
        obtain rfl : j = 12 := by simpa using hj
        cases ho
        refine wl_on (t := 64) rfl rfl ?_
        obtain ⟨m6825, hm6826, hS6827, hr6828, back6829⟩ := hS6763.lend (.there .here) hrc6547 RTour.mono (by decide)
        have le6830 := hm6826
        have hrc6831 := RCs.mono RPlanF.mono hrc6096 hm6826
        have hrc6832 := RCs.mono RTour.mono hrc27 hm6826
        obtain ⟨r6833, hq6834, hM⟩ := bnd_ok hM
        refine wl_call ent87 (vals := [.agg #[.bool _, .slice _ _ _, .int .i64 _], .agg #[.bool _, .slice _ _ _, .int .i64 _]]) rfl (cg87 hS6827 ⟨_, _, _, rfl, hr6828⟩ (RPlan.mono _ _ _ _ ⟨_, _, _, rfl, hr6823⟩ le6830) hq6834) ?_
        rintro _ w6836 ⟨rfl, hS6837⟩
        have hS6838 := back6829 _ _ hS6837
        refine wl_nil ?_
        have hS6840 := hS6838.front (.there (.there (.there (.there (.there (.there (.there (.there (.there (.there .here))))))))))
        have hS6841 := hS6840.front (.there (.there (.there (.there (.there (.there (.there (.there (.there (.there .here))))))))))
        have hS6842 := hS6841.front (.there (.there (.there (.there (.there (.there (.there (.there (.there (.there .here))))))))))
        have hS6843 := hS6842.front (.there (.there (.there (.there (.there (.there (.there (.there .here))))))))
        have hS6844 := hS6843.front (.there (.there (.there (.there (.there (.there (.there (.there .here))))))))
        have hS6845 := hS6844.front (.there (.there (.there (.there (.there (.there (.there (.there .here))))))))
        have hS6846 := hS6845.front (.there (.there (.there (.there (.there (.there (.there (.there .here))))))))
        have hS6847 := hS6846.front (.there (.there (.there (.there (.there (.there (.there .here)))))))
        have hS6848 := hS6847.front (.there (.there (.there (.there (.there (.there (.there (.there .here))))))))
        have hH6839 := hS6848.toHeld.mono (Mem.le_refl _) (List.Sublist.subset (.cons_cons _ (.cons_cons _ (.cons_cons _ (.cons_cons _ (.cons_cons _ (.cons_cons _ (.cons_cons _ (.cons_cons _ (.cons_cons _ (.cons _ (.cons _ (.refl _)))))))))))))
        refine ⟨hH6839, ?_⟩
        refine d_v (i := 13) rfl (by kernel_rfl) rfl (r_pick_f rfl (v := .bool _) rfl) hH6839 ?_
        refine d_end (by kernel_rfl) ?_
        refine c_cond (c := _) rfl (fun h6849 => ?_) (fun h6849 => ?_)
        ·replace hM := bif_t h6849 hM
         refine c_region <| wl_h hS6848.toHeld (r_box ty181 (k := 0) (.there (.there (.there (.there (.there (.there (.there (.there (.there .here))))))))) rfl rfl rfl (v := .slice _ _ _) rfl) <| wl_h hS6848.toHeld (r_box ty3 (k := 0) (.there (.there (.there (.there (.there .here))))) rfl rfl rfl (v := .int .i64 _) rfl) <| wl_h hS6848.toHeld (r_box ty143 (k := 0) .here rfl rfl rfl (v := .agg #[.bool _, .slice _ _ _, .int .i64 _]) rfl) ?_
         obtain ⟨x6850, hx6851, h6852, h6853, hM⟩ := getK_ok hM
         obtain ⟨es6854, hes6855, hR6856⟩ := row_read hrc6096 hx6851
         have hk6861 := hR6856
         obtain ⟨a6857, n6858, c6859, rfl, hr6860⟩ := hR6856
         have hr6862 := Fresh.rsl hr6860
         obtain rfl := hr6862.1
         refine wl_h hS6848.toHeld (r_indexAddr Tryz.underlying181 ty143 (b := _) (o := _) (n := _) (c := _) (i := y4576) rfl rfl h6852 (row_lt (hS6848.toHeld.own (.there (.there (.there (.there (.there (.there (.there (.there (.there (.there .here))))))))))) hrc6096 (by decide) h6853)) ?_
         obtain ⟨m6863, hm6864, hS6865, hF6867⟩ := hS6848.freezeF (.there .here) hrc6547 RTour.mono (by decide) le6087
         have hr6866 := Fresh.rsl hF6867
         have le6868 := Mem.le_trans le6087 hm6864
         have le6869 := Mem.le_trans le6088 hm6864
         have le6870 := Mem.le_trans le6089 hm6864
         have le6871 := hm6864
         replace hk12 := RFleet.mono _ _ _ _ hk12 hm6864
         replace hr7 := RSl.mono RStop.mono hr7 hm6864
         replace hr11 := RSl.mono (RS.mono RInt.mono) hr11 hm6864
         replace hrc27 := RCs.mono RTour.mono hrc27 hm6864
         replace hrc42 := RCs.mono RPlanF.mono hrc42 hm6864
         replace hk59 := RPlanF.mono _ _ _ _ hk59 hm6864
         replace hr58 := Fresh.mono RTour.mono hr58 hm6864
         replace hr60 := RSl.mono RTour.mono hr60 hm6864
         replace hrc63 := RCs.mono RPlanF.mono hrc63 hm6864
         replace hrc4583 := RCs.mono RPlanF.mono hrc4583 hm6864
         replace hrc6096 := RCs.mono RPlanF.mono hrc6096 hm6864
         replace hr6148 := RSl.mono RTour.mono hr6148 hm6864
         replace hr6153 := RSl.mono RInt.mono hr6153 hm6864
         replace hrc6547 := RCs.mono RTour.mono hrc6547 hm6864
         replace hk6777 := RPlanF.mono _ _ _ _ hk6777 hm6864
         replace hr6776 := Fresh.mono RTour.mono hr6776 hm6864
         replace hr6778 := RSl.mono RTour.mono hr6778 hm6864
         replace hk6822 := RPlanF.mono _ _ _ _ hk6822 hm6864
         replace hr6821 := Fresh.mono RTour.mono hr6821 hm6864
         replace hr6823 := RSl.mono RTour.mono hr6823 hm6864
         replace hk6861 := RPlanF.mono _ _ _ _ hk6861 hm6864
         replace hr6860 := Fresh.mono RTour.mono hr6860 hm6864
         replace hr6862 := RSl.mono RTour.mono hr6862 hm6864
         refine wl_store_row ty143 hS6865 rfl (v := .agg #[.bool _, .slice _ _ _, .int .i64 _]) rfl (vs := [.bool _, .slice _ _ _, .int .i64 _]) rfl rfl rfl (.there (.there (.there (.there (.there (.there (.there (.there (.there .here))))))))) (Nat.le_trans (by simp only [Nat.zero_add]; omega) (row_room hrc6096 hx6851)) ?_
         intro w6872 hS6873
         have hrc6874 := RCs.seti hrc6096 hx6851 (vs := [.bool true, .slice a6542 ((([(⟨r6111.stops, r6111.leave, r6111.fin⟩ : Tour)] ++ r6121.tours)).length) c6544, .int .i64 ((r6121.takes + r6111.fin) - r6111.leave)]) (y := (⟨true, ([(⟨r6111.stops, r6111.leave, r6111.fin⟩ : Tour)] ++ r6121.tours), (r6121.takes + r6111.fin) - r6111.leave⟩ : Plan)) rfl ⟨_, _, _, rfl, hF6867⟩
         generalize spl cs6094 (0 + y4576.toNat * 3) [.bool true, .slice a6542 ((([(⟨r6111.stops, r6111.leave, r6111.fin⟩ : Tour)] ++ r6121.tours)).length) c6544, .int .i64 ((r6121.takes + r6111.fin) - r6111.leave)] = cs6875 at hS6873 hrc6874
         refine wl_nil <| c_nil <| q_norm <| c_nil ?_
         have hS6876 := hS6873.weaken (.cons _ (.cons_cons _ (.cons_cons _ (.cons_cons _ (.cons_cons _ (.cons_cons _ (.cons_cons _ (.cons_cons _ (.cons_cons _ (.cons_cons _ (.refl _)))))))))))
         have hS6877 := hS6876.front (.there (.there (.there (.there (.there (.there .here))))))
         have hS6878 := hS6877.front (.there (.there (.there (.there (.there (.there .here))))))
         have hS6879 := hS6878.front (.there (.there (.there (.there (.there (.there .here))))))
         have hS6880 := hS6879.front (.there (.there (.there (.there (.there (.there (.there (.there .here))))))))
         have hS6881 := hS6880.front (.there (.there (.there (.there (.there (.there (.there (.there .here))))))))
         have hS6882 := hS6881.front (.there (.there (.there (.there (.there (.there (.there (.there .here))))))))
         have hS6883 := hS6882.front (.there (.there (.there (.there (.there (.there (.there (.there .here))))))))
         have hS6884 := hS6883.front (.there (.there (.there (.there (.there (.there (.there (.there .here))))))))
         have hS6885 := hS6884.front (.there (.there (.there (.there (.there (.there (.there (.there .here))))))))
         obtain rfl := some_eq hM
         refine ⟨_, _, hS6885, fun w6886 hS6887 => ?_⟩
         exact ⟨rfl, ⟨m6863, (some ⟨b6769, 0, none⟩), l6090.length, c6093, cs6875⟩, ⟨le6870, row_n (hS6885.toHeld.own (.there (.there (.there (.there (.there .here)))))) hrc6874 (by decide), hrc6874⟩, hS6887⟩
        ·replace hM := bif_f h6849 hM
         refine c_skip <| c_nil <| q_norm <| c_nil ?_
         have hS6888 := hS6848.weaken (.cons _ (.cons _ (.cons_cons _ (.cons_cons _ (.cons_cons _ (.cons_cons _ (.cons_cons _ (.cons_cons _ (.cons_cons _ (.cons_cons _ (.cons_cons _ (.refl _))))))))))))
         have hS6889 := hS6888.front (.there (.there (.there (.there (.there (.there .here))))))
         have hS6890 := hS6889.front (.there (.there (.there (.there (.there (.there .here))))))
         have hS6891 := hS6890.front (.there (.there (.there (.there (.there (.there .here))))))
         have hS6892 := hS6891.front (.there (.there (.there (.there (.there (.there (.there (.there .here))))))))
         have hS6893 := hS6892.front (.there (.there (.there (.there (.there (.there (.there (.there .here))))))))
         have hS6894 := hS6893.front (.there (.there (.there (.there (.there (.there (.there (.there .here))))))))
         have hS6895 := hS6894.front (.there (.there (.there (.there (.there (.there (.there (.there .here))))))))
         have hS6896 := hS6895.front (.there (.there (.there (.there (.there (.there (.there (.there .here))))))))
         have hS6897 := hS6896.front (.there (.there (.there (.there (.there (.there (.there (.there .here))))))))
         obtain rfl := some_eq hM
         refine ⟨_, _, hS6897, fun w6898 hS6899 => ?_⟩
         exact ⟨rfl, ⟨m6085, (some ⟨b6769, 0, none⟩), l6090.length, c6093, cs6094⟩, ⟨le6089, row_n (hS6897.toHeld.own (.there (.there (.there (.there (.there .here)))))) hrc6096 (by decide), hrc6096⟩, hS6899⟩
  ·rintro _ w6909 ⟨rfl, ⟨z6900, z6901, z6902, z6903, z6904⟩, ⟨hz6905, hz6906, hz6907⟩, hS6908⟩
   simp only [List.cons_append, List.append_nil] at hS6908
   refine ⟨_, _, hS6908, fun w6910 hS6911 => ?_⟩
   have le6912 := Mem.le_trans le4573 hz6905
   have le6913 := Mem.le_trans le4574 hz6905
   have le6914 := hz6905
   replace hk12 := RFleet.mono _ _ _ _ hk12 hz6905
   replace hr7 := RSl.mono RStop.mono hr7 hz6905
   replace hr11 := RSl.mono (RS.mono RInt.mono) hr11 hz6905
   replace hrc27 := RCs.mono RTour.mono hrc27 hz6905
   replace hrc42 := RCs.mono RPlanF.mono hrc42 hz6905
   replace hk59 := RPlanF.mono _ _ _ _ hk59 hz6905
   replace hr58 := Fresh.mono RTour.mono hr58 hz6905
   replace hr60 := RSl.mono RTour.mono hr60 hz6905
   replace hrc63 := RCs.mono RPlanF.mono hrc63 hz6905
   replace hrc4583 := RCs.mono RPlanF.mono hrc4583 hz6905
   subst hz6906
   refine c_nil <| q_norm <| c_nil <| q_norm <| c_seq <| c_seq <| c_region <| wl_h hS6911.toHeld (r_box ty3 (k := 0) (.there (.there .here)) rfl rfl rfl (v := .int .i64 _) rfl) ?_
   refine wl_nil <| c_region <| wl_alloc ty3 rfl hS6911 ?_
   intro b6915 w6916 hS6917
   refine wl_store_box ty3 hS6917 rfl (v := .int .i64 _) rfl (vs := [.int .i64 _]) rfl rfl rfl .here (cs' := [.int .i64 _]) rfl rfl ?_
   intro w6918 hS6919
   refine wl_nil <| c_region <| wl_h hS6919.toHeld (r_box ty3 (k := 0) .here rfl rfl rfl (v := .int .i64 _) rfl) ?_
   obtain ⟨hc6920, hM⟩ := chk_ok hM
   refine wl_h hS6919.toHeld (r_add (a := _) (b := _) rfl rfl (ok_lo hc6920) (ok_hi hc6920)) <| wl_store_box ty3 hS6919 rfl (v := .int .i64 _) rfl (vs := [.int .i64 _]) rfl rfl rfl .here (cs' := [.int .i64 _]) rfl rfl ?_
   intro w6921 hS6922
   refine wl_nil <| c_nil <| q_loopN ?_
   have hS6923 := hS6922.front (.there .here)
   have hS6924 := St.mark (A := [.box b6915 3 [.int .i64 (y4576 + 1)], .box b4595 3 [.int .i64 y4576], .box b4575 3 [.int .i64 y4576], .box b43 181 [.slice z6901 r6101.length z6903], .row (.slice z6901 r6101.length z6903) 143 3 z6904, .box b32 178 [.slice a23 r19.length c25], .row (.slice a23 r19.length c25) 61 3 cs26, .box b16 143 [.bool false, .slice none 0 0, .int .i64 0]]) hS6923
   simp only [List.cons_append, List.nil_append] at hS6924
   have hS6925 := hS6924.weaken (.cons_cons _ (.cons _ (.cons _ (.cons_cons _ (.cons_cons _ (.cons_cons _ (.cons_cons _ (.cons_cons _ (.refl _)))))))))
   exact ⟨k_0, Nat.lt_succ_self _, (D4598 :: ds4584), y4576 + 1, r6101, z6900, b6915, z6901, r6101.length, z6903, z6904, rfl, hM, le6913, row_n (hS6925.toHeld.own (.there (.there .here))) hz6907 (by decide), hz6907, hS6925, rfl, rfl, rfl, rfl⟩
 ·replace hM := bif_f h4594 hM
  refine c_exit <| q_loopx <| q_hit <| c_seq <| c_region <| wl_h hS4588.toHeld (r_box ty181 (k := 0) (.there .here) rfl rfl rfl (v := .slice _ _ _) rfl) ?_
  refine wl_h hS4588.toHeld (r_box ty181 (k := 0) (.there .here) rfl rfl rfl (v := .slice _ _ _) rfl) <| wl_h hS4588.toHeld (r_len Tryz.underlying181 (a := _) (n := _) (c := _) rfl) ?_
  obtain ⟨hc6926, hM⟩ := chk_ok hM
  refine wl_h hS4588.toHeld (r_sub (a := _) (b := _) rfl rfl (ok_lo hc6926) (ok_hi hc6926)) ?_
  obtain ⟨x6927, hx6928, h6929, h6930, hM⟩ := getK_ok hM
  obtain ⟨b6931, rfl⟩ := row_some (hS4588.toHeld.own (.there (.there .here))) hrc4583 (by decide) h6929 h6930
  obtain ⟨es6932, hes6933, hR6934⟩ := row_read hrc4583 hx6928
  have hk6939 := hR6934
  obtain ⟨a6935, n6936, c6937, rfl, hr6938⟩ := hR6934
  have hr6940 := Fresh.rsl hr6938
  obtain rfl := hr6940.1
  refine wl_h hS4588.toHeld (r_indexAddr Tryz.underlying181 ty143 (b := _) (o := _) (n := _) (c := _) (i := ((l4577.length : Nat) : Int) - 1) rfl rfl h6929 (row_lt (hS4588.toHeld.own (.there (.there .here))) hrc4583 (by decide) h6930)) <| wl_h hS4588.toHeld (r_row ty143 (k := 0) (i := (((l4577.length : Nat) : Int) - 1).toNat) (.there (.there .here)) rfl rfl (row_room hrc4583 hx6928) hes6933 rfl (v := .agg #[.bool _, .slice _ _ _, .int .i64 _]) rfl) <| wl_store_box ty143 hS4588 rfl (v := .agg #[.bool _, .slice _ _ _, .int .i64 _]) rfl (vs := [.bool _, .slice _ _ _, .int .i64 _]) rfl rfl rfl (.there (.there (.there (.there (.there .here))))) (cs' := [.bool _, .slice _ _ _, .int .i64 _]) rfl rfl ?_
  intro w6941 hS6942
  refine wl_nil <| c_ret <| ret_marks (A := [.box b4575 3 [.int .i64 y4576], .box b43 181 [.slice (some ⟨b6931, 0, none⟩) l4577.length c4580], .row (.slice (some ⟨b6931, 0, none⟩) l4577.length c4580) 143 3 cs4581, .box b32 178 [.slice a23 r19.length c25], .row (.slice a23 r19.length c25) 61 3 cs26, .box b16 143 [.bool x6927.ok, .slice a6935 x6927.tours.length c6937, .int .i64 x6927.takes]]) (ds := _) (L := L) hS6942 (fun w6944 hS6943 => ?_)
  simp only [List.cons_append, List.nil_append] at hS6943
  refine ret_many rfl (.cell (v := .agg #[.bool _, .slice _ _ _, .int .i64 _]) rfl (ty143.run_loadVar (cs := [.bool _, .slice _ _ _, .int .i64 _]) (box_at (hS6943.toHeld.own (.there (.there (.there (.there (.there .here))))))) rfl) .nil) ?_
  obtain ⟨m6945, hm6946, cs6947, hrc6948, hS6949⟩ := hS6943.reclaim hr6938 le4573
  obtain rfl := some_eq hM
  have hS6951 := hS6949.weaken (.cons_cons _ (.cons _ (.cons _ (.cons _ (.cons _ (.cons _ (.cons _ (.refl _))))))))
  exact ⟨m6945, a6935, x6927.tours.length, c6937, cs6947, rfl, hm6946, row_n (hS6951.toHeld.own .here) hrc6948 (by decide), hrc6948, hS6951⟩

theorem cg29 {m : Mem} {L : List Atom} {w : World} {cs1 : List Value} {f3 : Fleet} (hS : St w m L) (hx2 : RFleet m cs1 f3) {fuel : Nat} {r : (List Tour) × Int × Int} (hM : mg29 fuel f3 = some r) : Calls P0 29 [.agg cs1.toArray].toArray w (Ret fun v w' => ∃ (m' : Mem) (a0 : Option Addr) (n0 : Nat) (c0 : Nat) (cs0 : List Value), v = .tuple #[.slice a0 n0 c0, .int .i64 r.2.1, .int .i64 r.2.2] ∧ m ≤ m' ∧ n0 = r.1.length ∧ RCs 3 RTour m' cs0 r.1 ∧ St w' m' (.row (.slice a0 n0 c0) 61 3 cs0 :: L)) := by
 rw [mg29] at hM
 have hk12 := hx2
 obtain ⟨a4, n5, c6, a8, n9, c10, rfl, hr7, hr11⟩ := hx2
 obtain rfl := hr7.1
 obtain rfl := hr11.1
 refine enter Tryz.func29 rfl Tryz.ntmps29 (Nat.le_of_ble_eq_true rfl) ?_
 refine c_seq <| c_region <| wl_box hS (v := .agg #[.slice _ _ _, .slice _ _ _, .int .i64 _, .int .i64 _, .int .i64 _]) rfl (cs := [.slice _ _ _, .slice _ _ _, .int .i64 _, .int .i64 _, .int .i64 _]) rfl ?_
 intro b13 w14 hS15
 refine wl_h hS15.toHeld (r_assign (v := .slice _ _ _) rfl) <| wl_h hS15.toHeld (r_assign (v := .int .i64 _) rfl) <| wl_h hS15.toHeld (r_assign (v := .int .i64 _) rfl) <| wl_nil <| c_seq <| c_seq <| c_region <| wl_h hS15.toHeld (r_box ty25 (k := 0) .here rfl rfl rfl (v := .agg #[.slice _ _ _, .slice _ _ _, .int .i64 _, .int .i64 _, .int .i64 _]) rfl) ?_
 obtain ⟨r16, hq17, hM⟩ := bnd_ok hM
 refine wl_call ent18 (vals := [.agg #[.slice _ _ _, .slice _ _ _, .int .i64 _, .int .i64 _, .int .i64 _]]) rfl (cg18 hS15 hk12 hq17) ?_
 rintro _ w19 ⟨rfl, hS20⟩
 refine wl_h hS20.toHeld (r_assign (v := .int .i64 _) rfl) <| wl_nil <| c_seq <| c_region <| wl_h hS20.toHeld (r_move (v := .int .i64 _) rfl) ?_
 refine wl_h hS20.toHeld (r_neq (a := _) (b := _) rfl rfl) <| wl_nil <| c_cond (c := _) rfl (fun h21 => ?_) (fun h21 => ?_)
 ·replace hM := bif_t h21 hM
  refine c_seq <| c_region <| wl_h hS20.toHeld (r_move (v := .int .i64 _) rfl) <| wl_h hS20.toHeld (r_assign (v := .slice _ _ _) rfl) <| wl_h hS20.toHeld (r_assign (v := .int .i64 _) rfl) ?_
  refine wl_h hS20.toHeld (r_assign (v := .int .i64 _) rfl) <| wl_nil <| c_ret <| ret_many rfl (.tmp (v := .slice _ _ _) rfl (.tmp (v := .int .i64 _) rfl (.tmp (v := .int .i64 _) rfl .nil))) ?_
  have hS22 := hS20.nilRow 61 3
  have hrc24 : RCs 3 RTour m [] ([] : List Tour) := RCs.nil
  obtain rfl := some_eq hM
  have hS25 := hS22.weaken (.cons_cons _ (.cons _ (.refl _)))
  exact ⟨m, none, 0, 0, [], rfl, Mem.le_refl _, row_n (hS25.toHeld.own .here) hrc24 (by decide), hrc24, hS25⟩
 ·replace hM := bif_f h21 hM
  refine c_skip <| c_seq <| c_region <| wl_h hS20.toHeld (r_box ty25 (k := 0) .here rfl rfl rfl (v := .agg #[.slice _ _ _, .slice _ _ _, .int .i64 _, .int .i64 _, .int .i64 _]) rfl) ?_
  obtain ⟨r26, hq27, hM⟩ := bnd_ok hM
  refine wl_call ent78 (vals := [.agg #[.slice _ _ _, .slice _ _ _, .int .i64 _, .int .i64 _, .int .i64 _]]) rfl (cg78 hS20 hk12 hq27) ?_
  rintro _ w36 ⟨m28, a30, n31, c32, cs33, rfl, hm29, rfl, hrc34, hS37⟩
  have le38 := hm29
  replace hk12 := RFleet.mono _ _ _ _ hk12 hm29
  replace hr7 := RSl.mono RStop.mono hr7 hm29
  replace hr11 := RSl.mono (RS.mono RInt.mono) hr11 hm29
  refine wl_alloc ty143 rfl hS37 ?_
  intro b39 w40 hS41
  refine wl_store_box ty143 hS41 rfl (v := .agg #[.bool _, .slice _ _ _, .int .i64 _]) rfl (vs := [.bool _, .slice _ _ _, .int .i64 _]) rfl rfl rfl .here (cs' := [.bool _, .slice _ _ _, .int .i64 _]) rfl rfl ?_
  intro w42 hS43
  refine wl_nil <| c_seq <| c_seq <| c_region <| wl_h hS43.toHeld (r_fieldAddr fld143_0 (b := _) (o := _) rfl) ?_
  refine wl_h hS43.toHeld (r_box ty4 (k := 0) .here rfl rfl rfl (v := .bool _) rfl) <| wl_h hS43.toHeld (r_not (b := _) rfl) <| wl_nil <| c_cond (c := _) rfl (fun h44 => ?_) (fun h44 => ?_)
  ·replace hM := bif_t h44 hM
   refine c_seq <| c_region <| wl_h hS43.toHeld (r_assign (v := .slice _ _ _) rfl) <| wl_h hS43.toHeld (r_assign (v := .int .i64 _) rfl) <| wl_h hS43.toHeld (r_assign (v := .int .i64 _) rfl) ?_
   refine wl_nil <| c_ret <| ret_many rfl (.tmp (v := .slice _ _ _) rfl (.tmp (v := .int .i64 _) rfl (.tmp (v := .int .i64 _) rfl .nil))) ?_
   have hS45 := hS43.nilRow 61 3
   have hrc47 : RCs 3 RTour m28 [] ([] : List Tour) := RCs.nil
   obtain rfl := some_eq hM
   have hS48 := hS45.weaken (.cons_cons _ (.cons _ (.cons _ (.cons _ (.refl _)))))
   exact ⟨m28, none, 0, 0, [], rfl, le38, row_n (hS48.toHeld.own .here) hrc47 (by decide), hrc47, hS48⟩
  ·replace hM := bif_f h44 hM
   refine c_skip <| c_seq <| c_seq <| c_region <| wl_h hS43.toHeld (r_fieldAddr fld143_1 (b := _) (o := _) rfl) ?_
   refine wl_h hS43.toHeld (r_box ty77 (k := 1) .here rfl rfl rfl (v := .slice _ _ _) rfl) <| wl_h hS43.toHeld (r_len Tryz.underlying77 (a := _) (n := _) (c := _) rfl) <| wl_h hS43.toHeld (r_move (v := .int .i64 _) rfl) <| wl_nil <| c_block ?_
   have hS49 := hS43.weaken (.cons_cons _ (.cons_cons _ (.cons _ (.refl _))))
   refine c_loop (fun k f w => ∃ (x626 : Int) (l627 : List Tour) (m622 : Mem) (a628 : Option Addr) (n629 : Nat) (c630 : Nat) (cs631 : List Value), mg29_l0 fuel r26 k x626 l627 = some r ∧ m28 ≤ m622 ∧ n629 = l627.length ∧ RCs 3 RTour m622 cs631 l627 ∧ St w m622 (.box b39 143 [.bool r26.ok, .slice a628 n629 c630, .int .i64 r26.takes] :: .row (.slice a628 n629 c630) 61 3 cs631 :: L) ∧ f 6 = .pointer (some ⟨b39, 0, none⟩) ∧ f 20 = .int .i64 ((r26.tours.length : Nat) : Int) ∧ f 21 = .int .i64 x626) fuel ⟨0, r26.tours, m28, a30, r26.tours.length, c32, cs33, hM, Mem.le_refl _, row_n (hS49.toHeld.own (.there .here)) hrc34 (by decide), hrc34, hS49, rfl, rfl, rfl⟩ ?_
   rintro k_0 f634 w635 ⟨x626, l627, m622, a628, n629, c630, cs631, hM, hm623, hn632, hrc633, hS637, e638, e639, e640⟩
   replace hk12 := RFleet.mono _ _ _ _ hk12 hm623
   replace hr7 := RSl.mono RStop.mono hr7 hm623
   replace hr11 := RSl.mono (RS.mono RInt.mono) hr11 hm623
   replace hrc34 := RCs.mono RTour.mono hrc34 hm623
   have le624 := Mem.le_trans le38 hm623
   have le625 := hm623
   subst hn632
   refine c_know (t := 6) e638 <| c_know (t := 20) e639 <| c_know (t := 21) e640 ?_
   clear e638 e639 e640
   rcases k_0 with _ | k_0
   · exact none_ne hM
   rw [mg29_l0] at hM
   refine c_seq <| c_region <| wl_h hS637.toHeld (r_lss (a := _) (b := _) rfl rfl) <| wl_nil <| c_seq <| c_cond (c := _) rfl (fun h641 => ?_) (fun h641 => ?_)
   ·replace hM := bif_t h641 hM
    refine c_skip <| c_seq <| c_block <| c_seq <| c_region <| wl_h hS637.toHeld (r_move (v := .int .i64 _) rfl) ?_
    refine wl_h hS637.toHeld (r_assign (v := .int .i64 _) rfl) <| wl_nil ?_
    obtain ⟨x698, hx699, h700, h701, hM⟩ := getK_ok hM
    obtain ⟨r712, hq713, hM⟩ := bnd_ok hM
    obtain ⟨x724, hx725, h726, h727, hM⟩ := getK_ok hM
    have hH756 := (hS637.weaken (.cons _ (.cons _ (.refl _)))).toHeld
    refine c_drawJ (k := 13) (fun f w => ∃ (m736 : Mem) (a750 : Option Addr) (n751 : Nat) (c752 : Nat) (cs753 : List Value), m622 ≤ m736 ∧ n751 = ((l627.set x626.toNat (⟨r712, x724.leave, x724.fin⟩ : Tour))).length ∧ RCs 3 RTour m736 cs753 (l627.set x626.toNat (⟨r712, x724.leave, x724.fin⟩ : Tour)) ∧ St w m736 (.box b39 143 [.bool r26.ok, .slice a750 n751 c752, .int .i64 r26.takes] :: .row (.slice a750 n751 c752) 61 3 cs753 :: L) ∧ f 6 = .pointer (some ⟨b39, 0, none⟩) ∧ f 20 = .int .i64 ((r26.tours.length : Nat) : Int) ∧ f 21 = .int .i64 x626) (fun w => Held w m622 (L)) mixed rfl ?_ ?_
    ·replace hH756 := hH756.drew1
     have hS757 := hS637.drew1
     refine d_v (i := 0) rfl (by kernel_rfl) rfl (r_fieldAddr fld143_1 (b := _) (o := _) rfl) hH756 ?_
     refine d_v (i := 2) rfl (by kernel_rfl) rfl (r_move (v := .int .i64 _) rfl) hH756 ?_
     refine d_v (i := 3) rfl (by kernel_rfl) rfl (r_fieldAddr fld143_1 (b := _) (o := _) rfl) hH756 ?_
     refine d_v (i := 5) rfl (by kernel_rfl) rfl (r_move (v := .int .i64 _) rfl) hH756 ?_
     refine d_all (rs := [1, 4]) (by kernel_rfl) (by simp) (fun j hj o ho => ?_)
     simp only [List.mem_cons, List.not_mem_nil, or_false] at hj
     rcases hj with rfl | rfl
     ·cases ho
      refine wl_h hS757.toHeld (r_box ty77 (k := 1) .here rfl rfl rfl (v := .slice _ _ _) rfl) <| wl_nil ?_
      have hH758 := hS757.toHeld.mono (Mem.le_refl _) (List.Sublist.subset (.cons _ (.cons _ (.refl _))))
      refine ⟨hH758, ?_⟩
      refine d_all (rs := [4]) (by kernel_rfl) (by simp) (fun j hj o ho => ?_)
      obtain rfl : j = 4 := by simpa using hj
      cases ho
      refine wl_h hS757.toHeld (r_box ty77 (k := 1) .here rfl rfl rfl (v := .slice _ _ _) rfl) <| wl_nil ?_
      have hH759 := hS757.toHeld.mono (Mem.le_refl _) (List.Sublist.subset (.cons _ (.cons _ (.refl _))))
      refine ⟨hH759, ?_⟩
      obtain ⟨b760, rfl⟩ := row_some (hS757.toHeld.own (.there .here)) hrc633 (by decide) h700 h701
      obtain ⟨es761, hes762, hR763⟩ := row_read hrc633 hx699
      have hk768 := hR763
      obtain ⟨a764, n765, c766, rfl, hr767⟩ := hR763
      obtain rfl := hr767.1
      refine d_v (i := 6) rfl (by kernel_rfl) rfl (r_indexAddr Tryz.underlying77 ty61 (b := _) (o := _) (n := _) (c := _) (i := x626) rfl rfl h700 (row_lt (hS757.toHeld.own (.there .here)) hrc633 (by decide) h701)) hH759 ?_
      refine d_v (i := 7) rfl (by kernel_rfl) rfl (r_fieldAddr fld61_0 (b := _) (o := _) rfl) hH759 ?_
      refine d_all (rs := [8]) (by kernel_rfl) (by simp) (fun j hj o ho => ?_)
      obtain rfl : j = 8 := by simpa using hj
      cases ho
      refine wl_h hS757.toHeld (r_row ty26 (k := 0) (i := x626.toNat) (.there .here) rfl rfl (row_room hrc633 hx699) hes762 rfl (v := .slice _ _ _) rfl) <| wl_nil ?_
      have hH769 := hS757.toHeld.mono (Mem.le_refl _) (List.Sublist.subset (.cons _ (.cons _ (.refl _))))
      refine ⟨hH769, ?_⟩
      refine d_all (rs := [9]) (by kernel_rfl) (by simp) (fun j hj o ho => ?_)
      obtain rfl : j = 9 := by simpa using hj
      cases ho
      refine wl_call ent17 (vals := [.slice _ _ _]) rfl (cg17 hS757 hr767 hq713) ?_
      rintro _ w777 ⟨a771, n772, c773, cs774, rfl, rfl, hrc775, hS778⟩
      refine wl_nil ?_
      have hH779 := hS778.toHeld.mono (Mem.le_refl _) (List.Sublist.subset (.cons _ (.cons _ (.cons _ (.refl _)))))
      refine ⟨hH779, ?_⟩
      obtain ⟨es780, hes781, hR782⟩ := row_read hrc633 hx725
      have hk787 := hR782
      obtain ⟨a783, n784, c785, rfl, hr786⟩ := hR782
      obtain rfl := hr786.1
      refine d_v (i := 10) rfl (by kernel_rfl) rfl (r_indexAddr Tryz.underlying77 ty61 (b := _) (o := _) (n := _) (c := _) (i := x626) rfl rfl h726 (row_lt (hS778.toHeld.own (.there (.there .here))) hrc633 (by decide) h727)) hH779 ?_
      refine d_v (i := 11) rfl (by kernel_rfl) rfl (r_fieldAddr fld61_0 (b := _) (o := _) rfl) hH779 ?_
      refine d_all (rs := [12]) (by kernel_rfl) (by simp) (fun j hj o ho => ?_)
      obtain rfl : j = 12 := by simpa using hj
      cases ho
      obtain ⟨m788, hm789, hS790, hr791⟩ := hS778.freezeR .here hrc775 RInt.mono (by decide)
      have le793 := Mem.le_trans le624 hm789
      have le794 := Mem.le_trans le625 hm789
      have le795 := hm789
      replace hk12 := RFleet.mono _ _ _ _ hk12 hm789
      replace hr7 := RSl.mono RStop.mono hr7 hm789
      replace hr11 := RSl.mono (RS.mono RInt.mono) hr11 hm789
      replace hrc34 := RCs.mono RTour.mono hrc34 hm789
      replace hrc633 := RCs.mono RTour.mono hrc633 hm789
      replace hk768 := RTour.mono _ _ _ _ hk768 hm789
      replace hr767 := RSl.mono RInt.mono hr767 hm789
      replace hrc775 := RCs.mono RInt.mono hrc775 hm789
      replace hk787 := RTour.mono _ _ _ _ hk787 hm789
      replace hr786 := RSl.mono RInt.mono hr786 hm789
      refine wl_store_row ty26 hS790 rfl (v := .slice _ _ _) rfl (vs := [.slice _ _ _]) rfl rfl rfl (.there .here) (Nat.le_trans (by simp only [Nat.zero_add]; omega) (row_room hrc633 hx725)) ?_
      intro w796 hS797
      have hrc798 := RCs.setp hrc633 hx725 (k := 0) (vs := [.slice a771 r712.length c773]) hes781 (Nat.le_of_ble_eq_true rfl) rfl (y := (⟨r712, x724.leave, x724.fin⟩ : Tour)) ⟨_, _, _, rfl, hr791⟩
      generalize spl cs631 (0 + x626.toNat * 3 + 0) [.slice a771 r712.length c773] = cs799 at hS797 hrc798
      refine wl_nil ?_
      have hH800 := hS797.toHeld.mono le795 (List.Sublist.subset (.cons _ (.cons _ (.refl _))))
      refine ⟨hH800, ?_⟩
      refine d_end (by kernel_rfl) ?_
      exact ⟨_, _, _, _, _, le795, row_n (hS797.toHeld.own (.there .here)) hrc798 (by decide), hrc798, hS797, rfl, rfl, rfl⟩
     ·cases ho
      refine wl_h hS757.toHeld (r_box ty77 (k := 1) .here rfl rfl rfl (v := .slice _ _ _) rfl) <| wl_nil ?_
      have hH801 := hS757.toHeld.mono (Mem.le_refl _) (List.Sublist.subset (.cons _ (.cons _ (.refl _))))
      refine ⟨hH801, ?_⟩
      obtain ⟨b802, rfl⟩ := row_some (hS757.toHeld.own (.there .here)) hrc633 (by decide) h700 h701
      obtain ⟨es803, hes804, hR805⟩ := row_read hrc633 hx699
      have hk810 := hR805
      obtain ⟨a806, n807, c808, rfl, hr809⟩ := hR805
      obtain rfl := hr809.1
      refine d_v (i := 6) rfl (by kernel_rfl) rfl (r_indexAddr Tryz.underlying77 ty61 (b := _) (o := _) (n := _) (c := _) (i := x626) rfl rfl h700 (row_lt (hS757.toHeld.own (.there .here)) hrc633 (by decide) h701)) hH801 ?_
      refine d_v (i := 7) rfl (by kernel_rfl) rfl (r_fieldAddr fld61_0 (b := _) (o := _) rfl) hH801 ?_
      refine d_all (rs := [1, 8]) (by kernel_rfl) (by simp) (fun j hj o ho => ?_)
      simp only [List.mem_cons, List.not_mem_nil, or_false] at hj
      rcases hj with rfl | rfl
      ·cases ho
       refine wl_h hS757.toHeld (r_box ty77 (k := 1) .here rfl rfl rfl (v := .slice _ _ _) rfl) <| wl_nil ?_
       have hH811 := hS757.toHeld.mono (Mem.le_refl _) (List.Sublist.subset (.cons _ (.cons _ (.refl _))))
       refine ⟨hH811, ?_⟩
       refine d_all (rs := [8]) (by kernel_rfl) (by simp) (fun j hj o ho => ?_)
       obtain rfl : j = 8 := by simpa using hj
       cases ho
       refine wl_h hS757.toHeld (r_row ty26 (k := 0) (i := x626.toNat) (.there .here) rfl rfl (row_room hrc633 hx699) hes804 rfl (v := .slice _ _ _) rfl) <| wl_nil ?_
       have hH812 := hS757.toHeld.mono (Mem.le_refl _) (List.Sublist.subset (.cons _ (.cons _ (.refl _))))
       refine ⟨hH812, ?_⟩
       refine d_all (rs := [9]) (by kernel_rfl) (by simp) (fun j hj o ho => ?_)
       obtain rfl : j = 9 := by simpa using hj
       cases ho
       refine wl_call ent17 (vals := [.slice _ _ _]) rfl (cg17 hS757 hr809 hq713) ?_
       rintro _ w820 ⟨a814, n815, c816, cs817, rfl, rfl, hrc818, hS821⟩
       refine wl_nil ?_
       have hH822 := hS821.toHeld.mono (Mem.le_refl _) (List.Sublist.subset (.cons _ (.cons _ (.cons _ (.refl _)))))
       refine ⟨hH822, ?_⟩
       obtain ⟨es823, hes824, hR825⟩ := row_read hrc633 hx725
       have hk830 := hR825
       obtain ⟨a826, n827, c828, rfl, hr829⟩ := hR825
       obtain rfl := hr829.1
       refine d_v (i := 10) rfl (by kernel_rfl) rfl (r_indexAddr Tryz.underlying77 ty61 (b := _) (o := _) (n := _) (c := _) (i := x626) rfl rfl h726 (row_lt (hS821.toHeld.own (.there (.there .here))) hrc633 (by decide) h727)) hH822 ?_
       refine d_v (i := 11) rfl (by kernel_rfl) rfl (r_fieldAddr fld61_0 (b := _) (o := _) rfl) hH822 ?_
       refine d_all (rs := [12]) (by kernel_rfl) (by simp) (fun j hj o ho => ?_)
       obtain rfl : j = 12 := by simpa using hj
       cases ho
       obtain ⟨m831, hm832, hS833, hr834⟩ := hS821.freezeR .here hrc818 RInt.mono (by decide)
       have le836 := Mem.le_trans le624 hm832
       have le837 := Mem.le_trans le625 hm832
       have le838 := hm832
       replace hk12 := RFleet.mono _ _ _ _ hk12 hm832
       replace hr7 := RSl.mono RStop.mono hr7 hm832
       replace hr11 := RSl.mono (RS.mono RInt.mono) hr11 hm832
       replace hrc34 := RCs.mono RTour.mono hrc34 hm832
       replace hrc633 := RCs.mono RTour.mono hrc633 hm832
       replace hk810 := RTour.mono _ _ _ _ hk810 hm832
       replace hr809 := RSl.mono RInt.mono hr809 hm832
       replace hrc818 := RCs.mono RInt.mono hrc818 hm832
       replace hk830 := RTour.mono _ _ _ _ hk830 hm832
       replace hr829 := RSl.mono RInt.mono hr829 hm832
       refine wl_store_row ty26 hS833 rfl (v := .slice _ _ _) rfl (vs := [.slice _ _ _]) rfl rfl rfl (.there .here) (Nat.le_trans (by simp only [Nat.zero_add]; omega) (row_room hrc633 hx725)) ?_
       intro w839 hS840
       have hrc841 := RCs.setp hrc633 hx725 (k := 0) (vs := [.slice a814 r712.length c816]) hes824 (Nat.le_of_ble_eq_true rfl) rfl (y := (⟨r712, x724.leave, x724.fin⟩ : Tour)) ⟨_, _, _, rfl, hr834⟩
       generalize spl cs631 (0 + x626.toNat * 3 + 0) [.slice a814 r712.length c816] = cs842 at hS840 hrc841
       refine wl_nil ?_
       have hH843 := hS840.toHeld.mono le838 (List.Sublist.subset (.cons _ (.cons _ (.refl _))))
       refine ⟨hH843, ?_⟩
       refine d_end (by kernel_rfl) ?_
       exact ⟨_, _, _, _, _, le838, row_n (hS840.toHeld.own (.there .here)) hrc841 (by decide), hrc841, hS840, rfl, rfl, rfl⟩
      ·cases ho
       refine wl_h hS757.toHeld (r_row ty26 (k := 0) (i := x626.toNat) (.there .here) rfl rfl (row_room hrc633 hx699) hes804 rfl (v := .slice _ _ _) rfl) <| wl_nil ?_
       have hH844 := hS757.toHeld.mono (Mem.le_refl _) (List.Sublist.subset (.cons _ (.cons _ (.refl _))))
       refine ⟨hH844, ?_⟩
       refine d_all (rs := [1, 9]) (by kernel_rfl) (by simp) (fun j hj o ho => ?_)
       simp only [List.mem_cons, List.not_mem_nil, or_false] at hj
       rcases hj with rfl | rfl
       ·cases ho
        refine wl_h hS757.toHeld (r_box ty77 (k := 1) .here rfl rfl rfl (v := .slice _ _ _) rfl) <| wl_nil ?_
        have hH845 := hS757.toHeld.mono (Mem.le_refl _) (List.Sublist.subset (.cons _ (.cons _ (.refl _))))
        refine ⟨hH845, ?_⟩
        refine d_all (rs := [9]) (by kernel_rfl) (by simp) (fun j hj o ho => ?_)
        obtain rfl : j = 9 := by simpa using hj
        cases ho
        refine wl_call ent17 (vals := [.slice _ _ _]) rfl (cg17 hS757 hr809 hq713) ?_
        rintro _ w853 ⟨a847, n848, c849, cs850, rfl, rfl, hrc851, hS854⟩
        refine wl_nil ?_
        have hH855 := hS854.toHeld.mono (Mem.le_refl _) (List.Sublist.subset (.cons _ (.cons _ (.cons _ (.refl _)))))
        refine ⟨hH855, ?_⟩
        obtain ⟨es856, hes857, hR858⟩ := row_read hrc633 hx725
        have hk863 := hR858
        obtain ⟨a859, n860, c861, rfl, hr862⟩ := hR858
        obtain rfl := hr862.1
        refine d_v (i := 10) rfl (by kernel_rfl) rfl (r_indexAddr Tryz.underlying77 ty61 (b := _) (o := _) (n := _) (c := _) (i := x626) rfl rfl h726 (row_lt (hS854.toHeld.own (.there (.there .here))) hrc633 (by decide) h727)) hH855 ?_
        refine d_v (i := 11) rfl (by kernel_rfl) rfl (r_fieldAddr fld61_0 (b := _) (o := _) rfl) hH855 ?_
        refine d_all (rs := [12]) (by kernel_rfl) (by simp) (fun j hj o ho => ?_)
        obtain rfl : j = 12 := by simpa using hj
        cases ho
        obtain ⟨m864, hm865, hS866, hr867⟩ := hS854.freezeR .here hrc851 RInt.mono (by decide)
        have le869 := Mem.le_trans le624 hm865
        have le870 := Mem.le_trans le625 hm865
        have le871 := hm865
        replace hk12 := RFleet.mono _ _ _ _ hk12 hm865
        replace hr7 := RSl.mono RStop.mono hr7 hm865
        replace hr11 := RSl.mono (RS.mono RInt.mono) hr11 hm865
        replace hrc34 := RCs.mono RTour.mono hrc34 hm865
        replace hrc633 := RCs.mono RTour.mono hrc633 hm865
        replace hk810 := RTour.mono _ _ _ _ hk810 hm865
        replace hr809 := RSl.mono RInt.mono hr809 hm865
        replace hrc851 := RCs.mono RInt.mono hrc851 hm865
        replace hk863 := RTour.mono _ _ _ _ hk863 hm865
        replace hr862 := RSl.mono RInt.mono hr862 hm865
        refine wl_store_row ty26 hS866 rfl (v := .slice _ _ _) rfl (vs := [.slice _ _ _]) rfl rfl rfl (.there .here) (Nat.le_trans (by simp only [Nat.zero_add]; omega) (row_room hrc633 hx725)) ?_
        intro w872 hS873
        have hrc874 := RCs.setp hrc633 hx725 (k := 0) (vs := [.slice a847 r712.length c849]) hes857 (Nat.le_of_ble_eq_true rfl) rfl (y := (⟨r712, x724.leave, x724.fin⟩ : Tour)) ⟨_, _, _, rfl, hr867⟩
        generalize spl cs631 (0 + x626.toNat * 3 + 0) [.slice a847 r712.length c849] = cs875 at hS873 hrc874
        refine wl_nil ?_
        have hH876 := hS873.toHeld.mono le871 (List.Sublist.subset (.cons _ (.cons _ (.refl _))))
        refine ⟨hH876, ?_⟩
        refine d_end (by kernel_rfl) ?_
        exact ⟨_, _, _, _, _, le871, row_n (hS873.toHeld.own (.there .here)) hrc874 (by decide), hrc874, hS873, rfl, rfl, rfl⟩
       ·cases ho
        refine wl_call ent17 (vals := [.slice _ _ _]) rfl (cg17 hS757 hr809 hq713) ?_
        rintro _ w884 ⟨a878, n879, c880, cs881, rfl, rfl, hrc882, hS885⟩
        refine wl_nil ?_
        have hH886 := hS885.toHeld.mono (Mem.le_refl _) (List.Sublist.subset (.cons _ (.cons _ (.cons _ (.refl _)))))
        refine ⟨hH886, ?_⟩
        refine d_all (rs := [1]) (by kernel_rfl) (by simp) (fun j hj o ho => ?_)
        obtain rfl : j = 1 := by simpa using hj
        cases ho
        refine wl_h hS885.toHeld (r_box ty77 (k := 1) (.there .here) rfl rfl rfl (v := .slice _ _ _) rfl) <| wl_nil ?_
        have hH887 := hS885.toHeld.mono (Mem.le_refl _) (List.Sublist.subset (.cons _ (.cons _ (.cons _ (.refl _)))))
        refine ⟨hH887, ?_⟩
        obtain ⟨es888, hes889, hR890⟩ := row_read hrc633 hx725
        have hk895 := hR890
        obtain ⟨a891, n892, c893, rfl, hr894⟩ := hR890
        obtain rfl := hr894.1
        refine d_v (i := 10) rfl (by kernel_rfl) rfl (r_indexAddr Tryz.underlying77 ty61 (b := _) (o := _) (n := _) (c := _) (i := x626) rfl rfl h726 (row_lt (hS885.toHeld.own (.there (.there .here))) hrc633 (by decide) h727)) hH887 ?_
        refine d_v (i := 11) rfl (by kernel_rfl) rfl (r_fieldAddr fld61_0 (b := _) (o := _) rfl) hH887 ?_
        refine d_all (rs := [12]) (by kernel_rfl) (by simp) (fun j hj o ho => ?_)
        obtain rfl : j = 12 := by simpa using hj
        cases ho
        obtain ⟨m896, hm897, hS898, hr899⟩ := hS885.freezeR .here hrc882 RInt.mono (by decide)
        have le901 := Mem.le_trans le624 hm897
        have le902 := Mem.le_trans le625 hm897
        have le903 := hm897
        replace hk12 := RFleet.mono _ _ _ _ hk12 hm897
        replace hr7 := RSl.mono RStop.mono hr7 hm897
        replace hr11 := RSl.mono (RS.mono RInt.mono) hr11 hm897
        replace hrc34 := RCs.mono RTour.mono hrc34 hm897
        replace hrc633 := RCs.mono RTour.mono hrc633 hm897
        replace hk810 := RTour.mono _ _ _ _ hk810 hm897
        replace hr809 := RSl.mono RInt.mono hr809 hm897
        replace hrc882 := RCs.mono RInt.mono hrc882 hm897
        replace hk895 := RTour.mono _ _ _ _ hk895 hm897
        replace hr894 := RSl.mono RInt.mono hr894 hm897
        refine wl_store_row ty26 hS898 rfl (v := .slice _ _ _) rfl (vs := [.slice _ _ _]) rfl rfl rfl (.there .here) (Nat.le_trans (by simp only [Nat.zero_add]; omega) (row_room hrc633 hx725)) ?_
        intro w904 hS905
        have hrc906 := RCs.setp hrc633 hx725 (k := 0) (vs := [.slice a878 r712.length c880]) hes889 (Nat.le_of_ble_eq_true rfl) rfl (y := (⟨r712, x724.leave, x724.fin⟩ : Tour)) ⟨_, _, _, rfl, hr899⟩
        generalize spl cs631 (0 + x626.toNat * 3 + 0) [.slice a878 r712.length c880] = cs907 at hS905 hrc906
        refine wl_nil ?_
        have hH908 := hS905.toHeld.mono le903 (List.Sublist.subset (.cons _ (.cons _ (.refl _))))
        refine ⟨hH908, ?_⟩
        refine d_end (by kernel_rfl) ?_
        exact ⟨_, _, _, _, _, le903, row_n (hS905.toHeld.own (.there .here)) hrc906 (by decide), hrc906, hS905, rfl, rfl, rfl⟩
    ·rintro f913 w914 ⟨m736, a750, n751, c752, cs753, hm749, hn754, hrc755, hS909, e910, e911, e912⟩
     have le915 := Mem.le_trans le624 hm749
     have le916 := Mem.le_trans le625 hm749
     have le917 := hm749
     replace hk12 := RFleet.mono _ _ _ _ hk12 hm749
     replace hr7 := RSl.mono RStop.mono hr7 hm749
     replace hr11 := RSl.mono (RS.mono RInt.mono) hr11 hm749
     replace hrc34 := RCs.mono RTour.mono hrc34 hm749
     replace hrc633 := RCs.mono RTour.mono hrc633 hm749
     subst hn754
     refine c_know (t := 6) e910 <| c_know (t := 20) e911 <| c_know (t := 21) e912 ?_
     clear e910 e911 e912
     refine c_nil <| q_norm <| c_region ?_
     obtain ⟨hc918, hM⟩ := chk_ok hM
     refine wl_h hS909.toHeld (r_add (a := _) (b := _) rfl rfl (ok_lo hc918) (ok_hi hc918)) <| wl_h hS909.toHeld (r_move (v := .int .i64 _) rfl) <| wl_nil <| c_nil <| q_loop ?_
     exact ⟨k_0, Nat.lt_succ_self _, x626 + 1, (l627.set x626.toNat (⟨r712, x724.leave, x724.fin⟩ : Tour)), m736, a750, ((l627.set x626.toNat (⟨r712, x724.leave, x724.fin⟩ : Tour))).length, c752, cs753, hM, le916, row_n (hS909.toHeld.own (.there .here)) hrc755 (by decide), hrc755, hS909, rfl, rfl, rfl⟩
   ·replace hM := bif_f h641 hM
    refine c_exit <| q_loopx <| q_hit <| c_seq ?_
    have hH921 := (hS637.weaken (.cons_cons _ (.cons_cons _ (.refl _)))).toHeld
    refine c_draw (k := 7) (fun w => Held w m622 (.box b39 143 [.bool r26.ok, .slice a628 l627.length c630, .int .i64 r26.takes] :: .row (.slice a628 l627.length c630) 61 3 cs631 :: L)) mixed rfl ?_
    replace hH921 := hH921.drew1
    have hS922 := hS637.drew1
    refine d_v (i := 0) rfl (by kernel_rfl) rfl (r_fieldAddr fld143_1 (b := _) (o := _) rfl) hH921 ?_
    refine d_v (i := 1) rfl (by kernel_rfl) rfl (r_box ty77 (k := 1) .here rfl rfl rfl (v := .slice _ _ _) rfl) hH921 ?_
    refine d_v (i := 2) rfl (by kernel_rfl) rfl (r_fieldAddr fld143_2 (b := _) (o := _) rfl) hH921 ?_
    refine d_v (i := 3) rfl (by kernel_rfl) rfl (r_box ty3 (k := 2) .here rfl rfl rfl (v := .int .i64 _) rfl) hH921 ?_
    refine d_v (i := 4) rfl (by kernel_rfl) rfl (r_assign (v := .slice _ _ _) rfl) hH921 ?_
    refine d_v (i := 5) rfl (by kernel_rfl) rfl (r_assign (v := .int .i64 _) rfl) hH921 ?_
    refine d_v (i := 6) rfl (by kernel_rfl) rfl (r_assign (v := .int .i64 _) rfl) hH921 ?_
    refine d_end (by kernel_rfl) ?_
    refine c_ret <| ret_many rfl (.tmp (v := .slice _ _ _) rfl (.tmp (v := .int .i64 _) rfl (.tmp (v := .int .i64 _) rfl .nil))) ?_
    obtain rfl := some_eq hM
    have hS923 := hS922.weaken (.cons _ (.cons_cons _ (.refl _)))
    exact ⟨m622, a628, l627.length, c630, cs631, rfl, le624, row_n (hS923.toHeld.own .here) hrc633 (by decide), hrc633, hS923⟩

theorem cg129 {m : Mem} {L : List Atom} {w : World} {a1 : Option Addr} {n2 c3 : Nat} {s5 : List Street} {q6 : Street → Option Bool} {g7 : FuncId} {caps8 : List Value} (hS : St w m L) (hr4 : RSl 3 RStreet m a1 n2 c3 s5) (he9 : Ent P0 g7) (hg10 : ∀ (m' : Mem) (E : List Atom) (w' : World) (cs0 : List Value) (x0 : Street) (r : Bool), m ≤ m' → St w' m' (E ++ L) → RStreet m' cs0 x0 → q6 x0 = some r → Calls P0 g7 (([.agg cs0.toArray] : List Value) ++ caps8).toArray w' (Ret fun v w'' => v = .bool r ∧ St w'' m' (E ++ L))) {fuel : Nat} {r : Int} (hM : mg129 fuel s5 q6 = some r) : Calls P0 129 [.slice a1 n2 c3, .func (.func g7) #[] caps8.toArray].toArray w (Ret fun v w' => v = .int .i64 r ∧ St w' m (L)) := by
 rw [mg129] at hM
 obtain rfl := hr4.1
 refine enter Tryz.func129 rfl Tryz.ntmps129 (Nat.le_of_ble_eq_true rfl) ?_
 refine c_seq <| c_region <| wl_h hS.toHeld (r_assign (v := .int .i64 _) rfl) <| wl_nil <| c_seq <| c_seq <| c_region <| wl_h hS.toHeld (r_move (v := .slice _ _ _) rfl) ?_
 refine wl_h hS.toHeld (r_len Tryz.underlying39 (a := _) (n := _) (c := _) rfl) <| wl_h hS.toHeld (r_move (v := .int .i64 _) rfl) <| wl_nil <| c_block <| c_loop (fun k f w => ∃ (x28 : Int), mg129_l0 fuel s5 q6 k x28 = some r ∧ St w m (L) ∧ f 0 = .slice a1 s5.length c3 ∧ f 1 = .func (.func g7) #[] caps8.toArray ∧ f 7 = .int .i64 ((s5.length : Nat) : Int) ∧ f 8 = .int .i64 x28) fuel ⟨0, hM, hS, rfl, rfl, rfl, rfl⟩ ?_
 rintro k_0 f29 w30 ⟨x28, hM, hS32, e33, e34, e35, e36⟩
 refine c_know (t := 0) e33 <| c_know (t := 1) e34 <| c_know (t := 7) e35 <| c_know (t := 8) e36 ?_
 clear e33 e34 e35 e36
 rcases k_0 with _ | k_0
 · exact none_ne hM
 rw [mg129_l0] at hM
 refine c_seq <| c_region <| wl_h hS32.toHeld (r_lss (a := _) (b := _) rfl rfl) <| wl_nil <| c_seq <| c_cond (c := _) rfl (fun h37 => ?_) (fun h37 => ?_)
 ·replace hM := bif_t h37 hM
  refine c_skip <| c_seq <| c_block <| c_seq <| c_region <| wl_h hS32.toHeld (r_move (v := .int .i64 _) rfl) ?_
  refine wl_h hS32.toHeld (r_assign (v := .int .i64 _) rfl) <| wl_nil <| c_seq <| c_region <| wl_h hS32.toHeld (r_move (v := .func (.func g7) #[] caps8.toArray) rfl) ?_
  refine wl_h hS32.toHeld (r_move (v := .slice _ _ _) rfl) <| wl_h hS32.toHeld (r_move (v := .int .i64 _) rfl) ?_
  obtain ⟨x38, hx39, h40, h41, hM⟩ := getK_ok hM
  obtain ⟨b42, o43, rfl⟩ := RSl.elem_a hr4 hx39
  obtain ⟨cs44, hI45, hR46⟩ := RSl.elem_at hr4 hx39
  obtain rfl := hR46
  refine wl_h hS32.toHeld (r_indexAddr Tryz.underlying39 ty47 (b := _) (o := _) (n := _) (c := _) (i := x28) rfl rfl h40 (RSl.lt hr4 h41)) <| wl_h hS32.toHeld (r_imm ty47 (k := 0) hI45 rfl rfl rfl (v := .agg #[.int .i64 _, .int .i64 _, .int .i64 _]) rfl) ?_
  obtain ⟨r47, hq48, hM⟩ := bnd_ok hM
  refine wl_callv he9 (caps := caps8) rfl (vals := [.agg #[.int .i64 _, .int .i64 _, .int .i64 _]]) rfl (hg10 _ [] _ _ _ _ (Mem.le_refl _) hS32 rfl hq48) ?_
  rintro _ w49 ⟨rfl, hS50⟩
  simp only [List.cons_append, List.nil_append] at hS50
  refine wl_nil <| c_cond (c := _) rfl (fun h51 => ?_) (fun h51 => ?_)
  ·replace hM := bif_t h51 hM
   refine c_seq <| c_region <| wl_h hS50.toHeld (r_move (v := .int .i64 _) rfl) <| wl_h hS50.toHeld (r_assign (v := .int .i64 _) rfl) <| wl_nil <| c_ret <| q_retb ?_
   refine q_retl <| q_retb <| ret_tmp (t := 4) rfl (v := .int .i64 _) rfl ?_
   obtain rfl := some_eq hM
   exact ⟨rfl, hS50⟩
  ·replace hM := bif_f h51 hM
   refine c_skip <| c_nil <| q_norm <| c_region ?_
   obtain ⟨hc52, hM⟩ := chk_ok hM
   refine wl_h hS50.toHeld (r_add (a := _) (b := _) rfl rfl (ok_lo hc52) (ok_hi hc52)) <| wl_h hS50.toHeld (r_move (v := .int .i64 _) rfl) <| wl_nil <| c_nil <| q_loop ?_
   exact ⟨k_0, Nat.lt_succ_self _, x28 + 1, hM, hS50, rfl, rfl, rfl, rfl⟩
 ·replace hM := bif_f h37 hM
  refine c_exit <| q_loopx <| q_hit <| c_seq <| c_region <| wl_h hS32.toHeld (r_assign (v := .int .i64 _) rfl) ?_
  refine wl_nil <| c_ret <| ret_tmp (t := 4) rfl (v := .int .i64 _) rfl ?_
  obtain rfl := some_eq hM
  exact ⟨rfl, hS32⟩

theorem cg98 {m : Mem} {L : List Atom} {w : World} {a1 : Option Addr} {n2 c3 : Nat} {s5 : List Street} {q6 : Street → Option Bool} {g7 : FuncId} {caps8 : List Value} (hS : St w m L) (hr4 : RSl 3 RStreet m a1 n2 c3 s5) (he9 : Ent P0 g7) (hg10 : ∀ (m' : Mem) (E : List Atom) (w' : World) (cs0 : List Value) (x0 : Street) (r : Bool), m ≤ m' → St w' m' (E ++ L) → RStreet m' cs0 x0 → q6 x0 = some r → Calls P0 g7 (([.agg cs0.toArray] : List Value) ++ caps8).toArray w' (Ret fun v w'' => v = .bool r ∧ St w'' m' (E ++ L))) {fuel : Nat} {r : Bool} (hM : mg98 fuel s5 q6 = some r) : Calls P0 98 [.slice a1 n2 c3, .func (.func g7) #[] caps8.toArray].toArray w (Ret fun v w' => v = .bool r ∧ St w' m (L)) := by
 rw [mg98] at hM
 obtain rfl := hr4.1
 refine enter Tryz.func98 rfl Tryz.ntmps98 (Nat.le_of_ble_eq_true rfl) ?_
 refine c_seq <| c_region <| wl_h hS.toHeld (r_assign (v := .bool _) rfl) <| wl_nil <| c_seq <| c_region <| wl_h hS.toHeld (r_move (v := .slice _ _ _) rfl) ?_
 refine wl_h hS.toHeld (r_move (v := .func (.func g7) #[] caps8.toArray) rfl) ?_
 obtain ⟨r11, hq12, hM⟩ := bnd_ok hM
 refine wl_call ent129 (vals := [.slice _ _ _, .func (.func g7) #[] caps8.toArray]) rfl (cg129 hS hr4 (q6 := q6) (caps8 := caps8) he9 (fun m' E w' cs0 x0 r hle hSt h0 hq => hg10 m' E w' cs0 x0 r hle hSt h0 hq) hq12) ?_
 rintro _ w14 ⟨rfl, hS15⟩
 refine wl_h hS15.toHeld (r_geq (a := _) (b := _) rfl rfl) <| wl_h hS15.toHeld (r_assign (v := .bool _) rfl) <| wl_nil <| c_ret <| ret_tmp (t := 4) rfl (v := .bool _) rfl ?_
 obtain rfl := some_eq hM
 exact ⟨rfl, hS15⟩

theorem cg101 {m : Mem} {L : List Atom} {w : World} {cs1 : List Value} {r3 : Round} (hS : St w m L) (hx2 : RRound m cs1 r3) {fuel : Nat} {r : (List Int)} (hM : mg101 fuel r3 = some r) : Calls P0 101 [.agg cs1.toArray].toArray w (Ret fun v w' => ∃ (a0 : Option Addr) (n0 : Nat) (c0 : Nat) (cs0 : List Value), v = .slice a0 n0 c0 ∧ n0 = r.length ∧ RCs 1 RInt m cs0 r ∧ St w' m (.row (.slice a0 n0 c0) 3 1 cs0 :: L)) := by
 rw [mg101] at hM
 have hk8 := hx2
 obtain ⟨a4, n5, c6, rfl, hr7⟩ := hx2
 obtain rfl := hr7.1
 refine enter Tryz.func101 rfl Tryz.ntmps101 (Nat.le_of_ble_eq_true rfl) ?_
 refine c_seq <| c_region <| wl_box hS (v := .agg #[.int .i64 _, .slice _ _ _]) rfl (cs := [.int .i64 _, .slice _ _ _]) rfl ?_
 intro b9 w10 hS11
 refine wl_h hS11.toHeld (r_assign (v := .slice _ _ _) rfl) <| wl_nil <| c_seq <| c_region <| wl_makeMap hS11 ?_
 intro b13 w14 hS15
 have hp16 : RMap false RInt m [] ([] : List (Int × Int)) := .nil
 refine wl_h hS15.toHeld (r_assign (v := .map (some _)) rfl) <| wl_nil <| c_seq <| c_seq <| c_region <| wl_h hS15.toHeld (r_fieldAddr fld41_1 (b := _) (o := _) rfl) ?_
 refine wl_h hS15.toHeld (r_box ty39 (k := 1) (.there .here) rfl rfl rfl (v := .slice _ _ _) rfl) <| wl_h hS15.toHeld (r_len Tryz.underlying39 (a := _) (n := _) (c := _) rfl) <| wl_h hS15.toHeld (r_move (v := .int .i64 _) rfl) <| wl_nil <| c_block <| c_loop (fun k f w => ∃ (x351 : Int) (p352 : List (Int × Int)) (es353 : List MapEntry) (ck354 : Nat), mg101_l0 fuel r3 k x351 p352 = some r ∧ RMap false RInt m es353 p352 ∧ St w m (.raw b13 (.map es353.toArray ck354) :: .box b9 41 [.int .i64 r3.corners, .slice a4 r3.streets.length c6] :: L) ∧ f 1 = .pointer (some ⟨b9, 0, none⟩) ∧ f 3 = .map (some b13) ∧ f 10 = .slice a4 r3.streets.length c6 ∧ f 11 = .int .i64 ((r3.streets.length : Nat) : Int) ∧ f 12 = .int .i64 x351) fuel ⟨0, ([] : List (Int × Int)), [], 0, hM, hp16, hS15, rfl, rfl, rfl, rfl, rfl⟩ ?_
 rintro k_0 f356 w357 ⟨x351, p352, es353, ck354, hM, hp355, hS359, e360, e361, e362, e363, e364⟩
 refine c_know (t := 1) e360 <| c_know (t := 3) e361 <| c_know (t := 10) e362 <| c_know (t := 11) e363 <| c_know (t := 12) e364 ?_
 clear e360 e361 e362 e363 e364
 rcases k_0 with _ | k_0
 · exact none_ne hM
 rw [mg101_l0] at hM
 refine c_seq <| c_region <| wl_h hS359.toHeld (r_lss (a := _) (b := _) rfl rfl) <| wl_nil <| c_seq <| c_cond (c := _) rfl (fun h365 => ?_) (fun h365 => ?_)
 ·replace hM := bif_t h365 hM
  refine c_skip <| c_seq <| c_block <| c_seq <| c_region ?_
  obtain ⟨x366, hx367, h368, h369, hM⟩ := getK_ok hM
  obtain ⟨b370, o371, rfl⟩ := RSl.elem_a hr7 hx367
  obtain ⟨cs372, hI373, hR374⟩ := RSl.elem_at hr7 hx367
  obtain rfl := hR374
  refine wl_h hS359.toHeld (r_indexAddr Tryz.underlying39 ty47 (b := _) (o := _) (n := _) (c := _) (i := x351) rfl rfl h368 (RSl.lt hr7 h369)) <| wl_h hS359.toHeld (r_imm ty47 (k := 0) hI373 rfl rfl rfl (v := .agg #[.int .i64 _, .int .i64 _, .int .i64 _]) rfl) <| wl_alloc ty47 rfl hS359 ?_
  intro b375 w376 hS377
  refine wl_store_box ty47 hS377 rfl (v := .agg #[.int .i64 _, .int .i64 _, .int .i64 _]) rfl (vs := [.int .i64 _, .int .i64 _, .int .i64 _]) rfl rfl rfl .here (cs' := [.int .i64 _, .int .i64 _, .int .i64 _]) rfl rfl ?_
  intro w378 hS379
  refine wl_nil <| c_seq <| c_region <| wl_h hS379.toHeld (r_move (v := .map (some _)) rfl) <| wl_h hS379.toHeld (r_fieldAddr fld47_0 (b := _) (o := _) rfl) ?_
  refine wl_h hS379.toHeld (r_box ty3 (k := 0) .here rfl rfl rfl (v := .int .i64 _) rfl) ?_
  obtain ⟨cs380, hf381, hR382⟩ := RMap.found (z := [.int .i64 0]) (x0 := 0) hp355 rfl x366.a
  obtain rfl := hR382
  refine wl_h hS379.toHeld (r_lookup Tryz.underlying199 Tryz.underlying3 ty3 (.there .here) hf381 rfl (k := x366.a) rfl (v := .int .i64 _) rfl) ?_
  obtain ⟨hc383, hM⟩ := chk_ok hM
  refine wl_h hS379.toHeld (r_add (a := _) (b := _) rfl rfl (ok_lo hc383) (ok_hi hc383)) <| wl_mapUpdate Tryz.underlying199 Tryz.underlying3 hS379 rfl (k := x366.a) rfl (v := .int .i64 _) rfl (.there .here) hp355 (a := ((mget p352 x366.a).getD 0) + 1) ⟨[.int .i64 (((mget p352 x366.a).getD 0) + 1)], rfl, rfl⟩ ?_
  intro es384 ck385 w386 hp387 hS388
  refine wl_nil <| c_region <| wl_h hS388.toHeld (r_move (v := .map (some _)) rfl) <| wl_h hS388.toHeld (r_fieldAddr fld47_1 (b := _) (o := _) rfl) <| wl_h hS388.toHeld (r_box ty3 (k := 1) (.there .here) rfl rfl rfl (v := .int .i64 _) rfl) ?_
  obtain ⟨cs389, hf390, hR391⟩ := RMap.found (z := [.int .i64 0]) (x0 := 0) hp387 rfl x366.b
  obtain rfl := hR391
  refine wl_h hS388.toHeld (r_lookup Tryz.underlying199 Tryz.underlying3 ty3 .here hf390 rfl (k := x366.b) rfl (v := .int .i64 _) rfl) ?_
  obtain ⟨hc392, hM⟩ := chk_ok hM
  refine wl_h hS388.toHeld (r_add (a := _) (b := _) rfl rfl (ok_lo hc392) (ok_hi hc392)) <| wl_mapUpdate Tryz.underlying199 Tryz.underlying3 hS388 rfl (k := x366.b) rfl (v := .int .i64 _) rfl .here hp387 (a := ((mget (mset x366.a (((mget p352 x366.a).getD 0) + 1) p352) x366.b).getD 0) + 1) ⟨[.int .i64 (((mget (mset x366.a (((mget p352 x366.a).getD 0) + 1) p352) x366.b).getD 0) + 1)], rfl, rfl⟩ ?_
  intro es393 ck394 w395 hp396 hS397
  refine wl_nil <| c_nil <| q_norm <| c_region ?_
  obtain ⟨hc398, hM⟩ := chk_ok hM
  refine wl_h hS397.toHeld (r_add (a := _) (b := _) rfl rfl (ok_lo hc398) (ok_hi hc398)) <| wl_h hS397.toHeld (r_move (v := .int .i64 _) rfl) <| wl_nil <| c_nil <| q_loop ?_
  have hS399 := hS397.weaken (.cons_cons _ (.cons _ (.cons_cons _ (.refl _))))
  exact ⟨k_0, Nat.lt_succ_self _, x351 + 1, (mset x366.b (((mget (mset x366.a (((mget p352 x366.a).getD 0) + 1) p352) x366.b).getD 0) + 1) (mset x366.a (((mget p352 x366.a).getD 0) + 1) p352)), es393, ck394, hM, hp396, hS399, rfl, rfl, rfl, rfl, rfl⟩
 ·replace hM := bif_f h365 hM
  refine c_exit <| q_loopx <| q_hit <| c_seq <| c_region <| wl_h hS359.toHeld (r_assign (v := .slice _ _ _) rfl) ?_
  refine wl_nil <| c_seq <| c_seq <| c_region <| wl_h hS359.toHeld (r_fieldAddr fld41_0 (b := _) (o := _) rfl) ?_
  refine wl_h hS359.toHeld (r_box ty3 (k := 0) (.there .here) rfl rfl rfl (v := .int .i64 _) rfl) <| wl_h hS359.toHeld (r_move (v := .int .i64 _) rfl) <| wl_nil <| c_block ?_
  have hS489 := hS359.nilRow 3 1
  have hrc490 : RCs 1 RInt m [] ([] : List Int) := RCs.nil
  refine c_loop (fun k f w => ∃ (x491 : Int) (l492 : List Int) (a493 : Option Addr) (n494 : Nat) (c495 : Nat) (cs496 : List Value), mg101_l1 fuel r3 p352 k x491 l492 = some r ∧ n494 = l492.length ∧ RCs 1 RInt m cs496 l492 ∧ St w m (.row (.slice a493 n494 c495) 3 1 cs496 :: .raw b13 (.map es353.toArray ck354) :: .box b9 41 [.int .i64 r3.corners, .slice a4 r3.streets.length c6] :: L) ∧ f 3 = .map (some b13) ∧ f 6 = .slice a493 n494 c495 ∧ f 28 = .int .i64 r3.corners ∧ f 29 = .int .i64 x491) fuel ⟨0, ([] : List Int), none, 0, 0, [], hM, row_n (hS489.toHeld.own .here) hrc490 (by decide), hrc490, hS489, rfl, rfl, rfl, rfl⟩ ?_
  rintro k_1 f499 w500 ⟨x491, l492, a493, n494, c495, cs496, hM, hn497, hrc498, hS502, e503, e504, e505, e506⟩
  subst hn497
  refine c_know (t := 3) e503 <| c_know (t := 6) e504 <| c_know (t := 28) e505 <| c_know (t := 29) e506 ?_
  clear e503 e504 e505 e506
  rcases k_1 with _ | k_1
  · exact none_ne hM
  rw [mg101_l1] at hM
  refine c_seq <| c_region <| wl_h hS502.toHeld (r_lss (a := _) (b := _) rfl rfl) <| wl_nil <| c_seq <| c_cond (c := _) rfl (fun h507 => ?_) (fun h507 => ?_)
  ·replace hM := bif_t h507 hM
   refine c_skip <| c_seq <| c_block <| c_seq <| c_region <| wl_h hS502.toHeld (r_move (v := .int .i64 _) rfl) ?_
   refine wl_h hS502.toHeld (r_assign (v := .int .i64 _) rfl) <| wl_nil <| c_seq <| c_region <| wl_h hS502.toHeld (r_move (v := .map (some _)) rfl) ?_
   refine wl_h hS502.toHeld (r_move (v := .int .i64 _) rfl) ?_
   obtain ⟨cs508, hf509, hR510⟩ := RMap.found (z := [.int .i64 0]) (x0 := 0) hp355 rfl x491
   obtain rfl := hR510
   refine wl_h hS502.toHeld (r_lookup Tryz.underlying199 Tryz.underlying3 ty3 (.there .here) hf509 rfl (k := x491) rfl (v := .int .i64 _) rfl) ?_
   obtain ⟨hc511, hM⟩ := chk_ok hM
   refine wl_h hS502.toHeld (r_remk (a := _) (b := _) rfl rfl hc511) <| wl_h hS502.toHeld (r_eql (a := _) (b := _) rfl rfl) <| wl_nil <| c_cond (c := _) rfl (fun h512 => ?_) (fun h512 => ?_)
   ·replace hM := bif_t h512 hM
    refine c_region <| wl_h hS502.toHeld (r_move (v := .slice _ _ _) rfl) <| wl_h hS502.toHeld (r_move (v := .int .i64 _) rfl) <| wl_buildSlice Tryz.underlying26 ty3 rfl (by decide) (by decide) hS502 (ps := [(0, [.int .i64 _])]) rfl rfl (cs := [.int .i64 _]) rfl rfl (by decide) ?_
    intro b514 w515 hS516
    have hrc517 : RCs 1 RInt m [.int .i64 x491] ([x491] : List Int) := (RCs.cons (d := [.int .i64 x491]) rfl rfl RCs.nil)
    obtain ⟨hc518, hM⟩ := chk_ok hM
    refine wl_append_src Tryz.underlying26 ty3 rfl (by decide) hS516 (a := _) (nn := _) (c := _) rfl (a2 := _) (k2 := _) (c2 := _) rfl (.there .here) (row_src (hS516.toHeld.own .here) (RCs.allOne RInt.one (by decide) hrc517)) (lim_b hc518 rfl) (lim_a hc518) ?_
    intro a519 c520 w521 hS522
    have hrc524 := RCs.append hrc498 hrc517
    generalize cs496 ++ [.int .i64 x491] = cs525 at hS522 hrc524
    have hS526 := hS522.weaken (.cons_cons _ (.cons _ (.cons_cons _ (.cons_cons _ (.refl _)))))
    refine wl_h hS526.toHeld (r_assign (v := .slice _ _ _) rfl) <| wl_nil <| c_nil <| q_norm <| c_region ?_
    obtain ⟨hc527, hM⟩ := chk_ok hM
    refine wl_h hS526.toHeld (r_add (a := _) (b := _) rfl rfl (ok_lo hc527) (ok_hi hc527)) <| wl_h hS526.toHeld (r_move (v := .int .i64 _) rfl) <| wl_nil <| c_nil <| q_loop ?_
    exact ⟨k_1, Nat.lt_succ_self _, x491 + 1, (l492 ++ [x491]), a519, (l492.length + 1), c520, cs525, hM, row_n (hS526.toHeld.own .here) hrc524 (by decide), hrc524, hS526, rfl, rfl, rfl, rfl⟩
   ·replace hM := bif_f h512 hM
    refine c_skip <| c_nil <| q_norm <| c_region ?_
    obtain ⟨hc528, hM⟩ := chk_ok hM
    refine wl_h hS502.toHeld (r_add (a := _) (b := _) rfl rfl (ok_lo hc528) (ok_hi hc528)) <| wl_h hS502.toHeld (r_move (v := .int .i64 _) rfl) <| wl_nil <| c_nil <| q_loop ?_
    exact ⟨k_1, Nat.lt_succ_self _, x491 + 1, l492, a493, l492.length, c495, cs496, hM, row_n (hS502.toHeld.own .here) hrc498 (by decide), hrc498, hS502, rfl, rfl, rfl, rfl⟩
  ·replace hM := bif_f h507 hM
   refine c_exit <| q_loopx <| q_hit <| c_seq <| c_region <| wl_h hS502.toHeld (r_move (v := .slice _ _ _) rfl) ?_
   refine wl_h hS502.toHeld (r_assign (v := .slice _ _ _) rfl) <| wl_nil <| c_ret <| ret_tmp (t := 2) rfl (v := .slice _ _ _) rfl ?_
   obtain rfl := some_eq hM
   have hS529 := hS502.weaken (.cons_cons _ (.cons _ (.cons _ (.refl _))))
   exact ⟨a493, l492.length, c495, cs496, rfl, row_n (hS529.toHeld.own .here) hrc498 (by decide), hrc498, hS529⟩

theorem cg99 {m : Mem} {L : List Atom} {w : World} {cs1 : List Value} {s3 : Street} {b4 : Nat} {y6 : Int} {a7 : Option Addr} {n8 c9 : Nat} {y11 : (List Street)} (hS : St w m L) (hx2 : RStreet m cs1 s3) (hr10 : RSl 3 RStreet m a7 n8 c9 y11) (hb5 : K.Own L (.box b4 41 [.int .i64 y6, .slice a7 n8 c9])) {fuel : Nat} {r : Bool} (hM : mg99 fuel s3 y6 y11 = some r) : Calls P0 99 [.agg cs1.toArray, .pointer (some ⟨b4, 0, none⟩)].toArray w (Ret fun v w' => v = .bool r ∧ St w' m (L)) := by
 rw [mg99] at hM
 obtain rfl := hx2
 obtain rfl := hr10.1
 refine enter Tryz.func99 rfl Tryz.ntmps99 (Nat.le_of_ble_eq_true rfl) ?_
 refine c_seq <| c_region <| wl_box hS (v := .agg #[.int .i64 _, .int .i64 _, .int .i64 _]) rfl (cs := [.int .i64 _, .int .i64 _, .int .i64 _]) rfl ?_
 intro b12 w13 hS14
 refine wl_h hS14.toHeld (r_assign (v := .bool _) rfl) <| wl_nil <| c_seq <| c_region <| wl_h hS14.toHeld (r_fieldAddr fld47_0 (b := _) (o := _) rfl) ?_
 refine wl_h hS14.toHeld (r_box ty3 (k := 0) .here rfl rfl rfl (v := .int .i64 _) rfl) <| wl_h hS14.toHeld (r_fieldAddr fld41_0 (b := _) (o := _) rfl) <| wl_h hS14.toHeld (r_box ty3 (k := 0) (.there hb5) rfl rfl rfl (v := .int .i64 _) rfl) ?_
 obtain ⟨hc15, hM⟩ := chk_ok hM
 refine wl_h hS14.toHeld (r_sub (a := _) (b := _) rfl rfl (ok_lo hc15) (ok_hi hc15)) ?_
 obtain ⟨r16, hq17, hM⟩ := bnd_ok hM
 refine wl_call ent59 (vals := [.int .i64 _, .int .i64 _, .int .i64 _]) rfl (cg59 hS14 hq17) ?_
 rintro _ w19 ⟨rfl, hS20⟩
 refine wl_h hS20.toHeld (r_not (b := _) rfl) <| wl_h hS20.toHeld (r_move (v := .bool _) rfl) <| wl_split rfl (c := _) (t := 11) (fun h21 => ?_) (fun h21 => ?_)
 ·replace hM := bif_t h21 hM
  refine wl_off (t := 11) (b := true) rfl rfl rfl ?_
  refine wl_off (t := 11) (b := true) rfl rfl rfl ?_
  refine wl_off (t := 11) (b := true) rfl rfl rfl ?_
  refine wl_off (t := 11) (b := true) rfl rfl rfl ?_
  refine wl_off (t := 11) (b := true) rfl rfl rfl ?_
  refine wl_off (t := 11) (b := true) rfl rfl rfl ?_
  refine wl_off (t := 11) (b := true) rfl rfl rfl ?_
  refine wl_h hS20.toHeld (r_pick_t rfl (v := .bool _) rfl) <| wl_h hS20.toHeld (r_move (v := .bool _) rfl) <| wl_off (t := 20) (b := true) rfl rfl rfl ?_
  refine wl_off (t := 20) (b := true) rfl rfl rfl ?_
  refine wl_off (t := 20) (b := true) rfl rfl rfl ?_
  refine wl_off (t := 20) (b := true) rfl rfl rfl ?_
  refine wl_off (t := 20) (b := true) rfl rfl rfl ?_
  refine wl_h hS20.toHeld (r_pick_t rfl (v := .bool _) rfl) <| wl_h hS20.toHeld (r_move (v := .bool _) rfl) <| wl_off (t := 27) (b := true) rfl rfl rfl ?_
  refine wl_off (t := 27) (b := true) rfl rfl rfl ?_
  refine wl_off (t := 27) (b := true) rfl rfl rfl ?_
  refine wl_off (t := 27) (b := true) rfl rfl rfl ?_
  refine wl_h hS20.toHeld (r_pick_t rfl (v := .bool _) rfl) <| wl_h hS20.toHeld (r_assign (v := .bool _) rfl) <| wl_nil <| c_ret <| ret_tmp (t := 3) rfl (v := .bool _) rfl ?_
  obtain rfl := some_eq hM
  have hS22 := hS20.weaken (.cons _ (.refl _))
  exact ⟨rfl, hS22⟩
 ·replace hM := bif_f h21 hM
  refine wl_on (t := 11) rfl rfl ?_
  refine wl_h hS20.toHeld (r_fieldAddr fld47_1 (b := _) (o := _) rfl) <| wl_on (t := 11) rfl rfl ?_
  refine wl_h hS20.toHeld (r_box ty3 (k := 1) .here rfl rfl rfl (v := .int .i64 _) rfl) <| wl_on (t := 11) rfl rfl ?_
  refine wl_h hS20.toHeld (r_fieldAddr fld41_0 (b := _) (o := _) rfl) <| wl_on (t := 11) rfl rfl ?_
  refine wl_h hS20.toHeld (r_box ty3 (k := 0) (.there hb5) rfl rfl rfl (v := .int .i64 _) rfl) <| wl_on (t := 11) rfl rfl ?_
  obtain ⟨hc23, hM⟩ := chk_ok hM
  refine wl_h hS20.toHeld (r_sub (a := _) (b := _) rfl rfl (ok_lo hc23) (ok_hi hc23)) <| wl_on (t := 11) rfl rfl ?_
  obtain ⟨r24, hq25, hM⟩ := bnd_ok hM
  refine wl_call ent59 (vals := [.int .i64 _, .int .i64 _, .int .i64 _]) rfl (cg59 hS20 hq25) ?_
  rintro _ w27 ⟨rfl, hS28⟩
  refine wl_on (t := 11) rfl rfl ?_
  refine wl_h hS28.toHeld (r_not (b := _) rfl) <| wl_h hS28.toHeld (r_pick_f rfl (v := .bool _) rfl) <| wl_h hS28.toHeld (r_move (v := .bool _) rfl) <| wl_split rfl (c := _) (t := 20) (fun h29 => ?_) (fun h29 => ?_)
  ·replace hM := bif_t h29 hM
   refine wl_off (t := 20) (b := true) rfl rfl rfl ?_
   refine wl_off (t := 20) (b := true) rfl rfl rfl ?_
   refine wl_off (t := 20) (b := true) rfl rfl rfl ?_
   refine wl_off (t := 20) (b := true) rfl rfl rfl ?_
   refine wl_off (t := 20) (b := true) rfl rfl rfl ?_
   refine wl_h hS28.toHeld (r_pick_t rfl (v := .bool _) rfl) <| wl_h hS28.toHeld (r_move (v := .bool _) rfl) <| wl_off (t := 27) (b := true) rfl rfl rfl ?_
   refine wl_off (t := 27) (b := true) rfl rfl rfl ?_
   refine wl_off (t := 27) (b := true) rfl rfl rfl ?_
   refine wl_off (t := 27) (b := true) rfl rfl rfl ?_
   refine wl_h hS28.toHeld (r_pick_t rfl (v := .bool _) rfl) <| wl_h hS28.toHeld (r_assign (v := .bool _) rfl) <| wl_nil <| c_ret <| ret_tmp (t := 3) rfl (v := .bool _) rfl ?_
   obtain rfl := some_eq hM
   have hS30 := hS28.weaken (.cons _ (.refl _))
   exact ⟨rfl, hS30⟩
  ·replace hM := bif_f h29 hM
   refine wl_on (t := 20) rfl rfl ?_
   refine wl_h hS28.toHeld (r_fieldAddr fld47_0 (b := _) (o := _) rfl) <| wl_on (t := 20) rfl rfl ?_
   refine wl_h hS28.toHeld (r_box ty3 (k := 0) .here rfl rfl rfl (v := .int .i64 _) rfl) <| wl_on (t := 20) rfl rfl ?_
   refine wl_h hS28.toHeld (r_fieldAddr fld47_1 (b := _) (o := _) rfl) <| wl_on (t := 20) rfl rfl ?_
   refine wl_h hS28.toHeld (r_box ty3 (k := 1) .here rfl rfl rfl (v := .int .i64 _) rfl) <| wl_on (t := 20) rfl rfl ?_
   refine wl_h hS28.toHeld (r_eql (a := _) (b := _) rfl rfl) <| wl_h hS28.toHeld (r_pick_f rfl (v := .bool _) rfl) <| wl_h hS28.toHeld (r_move (v := .bool _) rfl) <| wl_split rfl (c := _) (t := 27) (fun h31 => ?_) (fun h31 => ?_)
   ·replace hM := bif_t h31 hM
    refine wl_off (t := 27) (b := true) rfl rfl rfl ?_
    refine wl_off (t := 27) (b := true) rfl rfl rfl ?_
    refine wl_off (t := 27) (b := true) rfl rfl rfl ?_
    refine wl_off (t := 27) (b := true) rfl rfl rfl ?_
    refine wl_h hS28.toHeld (r_pick_t rfl (v := .bool _) rfl) <| wl_h hS28.toHeld (r_assign (v := .bool _) rfl) <| wl_nil <| c_ret <| ret_tmp (t := 3) rfl (v := .bool _) rfl ?_
    obtain rfl := some_eq hM
    have hS32 := hS28.weaken (.cons _ (.refl _))
    exact ⟨rfl, hS32⟩
   ·replace hM := bif_f h31 hM
    refine wl_on (t := 27) rfl rfl ?_
    refine wl_h hS28.toHeld (r_fieldAddr fld47_2 (b := _) (o := _) rfl) <| wl_on (t := 27) rfl rfl ?_
    refine wl_h hS28.toHeld (r_box ty3 (k := 2) .here rfl rfl rfl (v := .int .i64 _) rfl) <| wl_on (t := 27) rfl rfl ?_
    obtain ⟨r33, hq34, hM⟩ := bnd_ok hM
    refine wl_call ent59 (vals := [.int .i64 _, .int .i64 _, .int .i64 _]) rfl (cg59 hS28 hq34) ?_
    rintro _ w36 ⟨rfl, hS37⟩
    refine wl_on (t := 27) rfl rfl ?_
    refine wl_h hS37.toHeld (r_not (b := _) rfl) <| wl_h hS37.toHeld (r_pick_f rfl (v := .bool _) rfl) <| wl_h hS37.toHeld (r_assign (v := .bool _) rfl) <| wl_nil <| c_ret <| ret_tmp (t := 3) rfl (v := .bool _) rfl ?_
    obtain rfl := some_eq hM
    have hS38 := hS37.weaken (.cons _ (.refl _))
    exact ⟨rfl, hS38⟩

theorem cg100 {m : Mem} {L : List Atom} {w : World} {cs1 : List Value} {s3 : Street} {b4 : Nat} {y6 : Int} (hS : St w m L) (hx2 : RStreet m cs1 s3) (hb5 : K.Own L (.box b4 3 [.int .i64 y6])) {fuel : Nat} {r : Bool} (hM : mg100 fuel s3 y6 = some r) : Calls P0 100 [.agg cs1.toArray, .pointer (some ⟨b4, 0, none⟩)].toArray w (Ret fun v w' => v = .bool r ∧ St w' m (L)) := by
 rw [mg100] at hM
 obtain rfl := hx2
 refine enter Tryz.func100 rfl Tryz.ntmps100 (Nat.le_of_ble_eq_true rfl) ?_
 refine c_seq <| c_region <| wl_box hS (v := .agg #[.int .i64 _, .int .i64 _, .int .i64 _]) rfl (cs := [.int .i64 _, .int .i64 _, .int .i64 _]) rfl ?_
 intro b7 w8 hS9
 refine wl_h hS9.toHeld (r_assign (v := .bool _) rfl) <| wl_nil <| c_seq <| c_region <| wl_h hS9.toHeld (r_box ty3 (k := 0) (.there hb5) rfl rfl rfl (v := .int .i64 _) rfl) ?_
 refine wl_h hS9.toHeld (r_fieldAddr fld47_0 (b := _) (o := _) rfl) <| wl_h hS9.toHeld (r_box ty3 (k := 0) .here rfl rfl rfl (v := .int .i64 _) rfl) ?_
 obtain ⟨hc10, hM⟩ := chk_ok hM
 refine wl_h hS9.toHeld (r_shr (a := _) (b := _) rfl rfl hc10) <| wl_h hS9.toHeld (r_and (a := _) (b := _) rfl rfl) <| wl_h hS9.toHeld (r_eql (a := _) (b := _) rfl rfl) <| wl_h hS9.toHeld (r_assign (v := .bool _) rfl) <| wl_nil <| c_ret <| ret_tmp (t := 3) rfl (v := .bool _) rfl ?_
 obtain rfl := some_eq hM
 have hS11 := hS9.weaken (.cons _ (.refl _))
 exact ⟨rfl, hS11⟩

theorem cg46 {m : Mem} {L : List Atom} {w : World} {cs1 : List Value} {r3 : Round} (hS : St w m L) (hx2 : RRound m cs1 r3) {fuel : Nat} {r : Int} (hM : mg46 fuel r3 = some r) : Calls P0 46 [.agg cs1.toArray].toArray w (Ret fun v w' => v = .int .i64 r ∧ St w' m (L)) := by
 rw [mg46] at hM
 have hk8 := hx2
 obtain ⟨a4, n5, c6, rfl, hr7⟩ := hx2
 obtain rfl := hr7.1
 refine enter Tryz.func46 rfl Tryz.ntmps46 (Nat.le_of_ble_eq_true rfl) ?_
 refine c_seq <| c_region <| wl_box hS (v := .agg #[.int .i64 _, .slice _ _ _]) rfl (cs := [.int .i64 _, .slice _ _ _]) rfl ?_
 intro b9 w10 hS11
 refine wl_h hS11.toHeld (r_assign (v := .int .i64 _) rfl) <| wl_nil <| c_seq <| c_seq <| c_region <| wl_h hS11.toHeld (r_fieldAddr fld41_0 (b := _) (o := _) rfl) ?_
 refine wl_h hS11.toHeld (r_box ty3 (k := 0) .here rfl rfl rfl (v := .int .i64 _) rfl) ?_
 obtain ⟨r12, hq13, hM⟩ := bnd_ok hM
 refine wl_call ent59 (vals := [.int .i64 _, .int .i64 _, .int .i64 _]) rfl (cg59 hS11 hq13) ?_
 rintro _ w15 ⟨rfl, hS16⟩
 refine wl_h hS16.toHeld (r_not (b := _) rfl) <| wl_h hS16.toHeld (r_move (v := .bool _) rfl) <| wl_split rfl (c := _) (t := 10) (fun h17 => ?_) (fun h17 => ?_)
 ·replace hM := bif_t h17 hM
  refine wl_off (t := 10) (b := true) rfl rfl rfl ?_
  refine wl_off (t := 10) (b := true) rfl rfl rfl ?_
  refine wl_off (t := 10) (b := true) rfl rfl rfl ?_
  refine wl_off (t := 10) (b := true) rfl rfl rfl ?_
  refine wl_h hS16.toHeld (r_pick_t rfl (v := .bool _) rfl) <| wl_nil <| c_true rfl <| c_seq <| c_region <| wl_h hS16.toHeld (r_assign (v := .int .i64 _) rfl) ?_
  refine wl_nil <| c_ret <| ret_tmp (t := 2) rfl (v := .int .i64 _) rfl ?_
  obtain rfl := some_eq hM
  have hS18 := hS16.weaken (.cons _ (.refl _))
  exact ⟨rfl, hS18⟩
 ·replace hM := bif_f h17 hM
  refine wl_on (t := 10) rfl rfl ?_
  refine wl_h hS16.toHeld (r_fieldAddr fld41_1 (b := _) (o := _) rfl) <| wl_on (t := 10) rfl rfl ?_
  refine wl_h hS16.toHeld (r_box ty39 (k := 1) .here rfl rfl rfl (v := .slice _ _ _) rfl) <| wl_on (t := 10) rfl rfl ?_
  refine wl_h hS16.toHeld (r_len Tryz.underlying39 (a := _) (n := _) (c := _) rfl) <| wl_on (t := 10) rfl rfl ?_
  refine wl_h hS16.toHeld (r_gtr (a := _) (b := _) rfl rfl) <| wl_h hS16.toHeld (r_pick_f rfl (v := .bool _) rfl) <| wl_nil <| c_cond (c := _) rfl (fun h19 => ?_) (fun h19 => ?_)
  ·replace hM := bif_t h19 hM
   refine c_seq <| c_region <| wl_h hS16.toHeld (r_assign (v := .int .i64 _) rfl) <| wl_nil <| c_ret <| ret_tmp (t := 2) rfl (v := .int .i64 _) rfl ?_
   obtain rfl := some_eq hM
   have hS20 := hS16.weaken (.cons _ (.refl _))
   exact ⟨rfl, hS20⟩
  ·replace hM := bif_f h19 hM
   refine c_skip <| c_seq <| c_seq <| c_region <| wl_h hS16.toHeld (r_fieldAddr fld41_1 (b := _) (o := _) rfl) ?_
   refine wl_h hS16.toHeld (r_box ty39 (k := 1) .here rfl rfl rfl (v := .slice _ _ _) rfl) <| wl_h hS16.toHeld (r_makeFunc (vs := [.pointer (some ⟨_, _, none⟩)]) rfl) ?_
   obtain ⟨r21, hq22, hM⟩ := bnd_ok hM
   refine wl_call ent98 (vals := [.slice _ _ _, .func (.func 99) #[] #[.pointer (some ⟨_, _, none⟩)]]) rfl (cg98 hS16 hr7 (q6 := (fun x0 => mg99 fuel x0 r3.corners r3.streets)) (caps8 := [.pointer (some ⟨b9, 0, none⟩)]) ent99 (fun m' E w' cs0 x0 r hle hSt h0 hq => cg99 hSt h0 (RSl.mono RStreet.mono hr7 hle) (Own.app .here) hq) hq22) ?_
   rintro _ w24 ⟨rfl, hS25⟩
   refine wl_nil <| c_cond (c := _) rfl (fun h26 => ?_) (fun h26 => ?_)
   ·replace hM := bif_t h26 hM
    refine c_seq <| c_region <| wl_h hS25.toHeld (r_assign (v := .int .i64 _) rfl) <| wl_nil <| c_ret <| ret_tmp (t := 2) rfl (v := .int .i64 _) rfl ?_
    obtain rfl := some_eq hM
    have hS27 := hS25.weaken (.cons _ (.refl _))
    exact ⟨rfl, hS27⟩
   ·replace hM := bif_f h26 hM
    refine c_skip <| c_seq <| c_seq <| c_region <| wl_h hS25.toHeld (r_fieldAddr fld41_1 (b := _) (o := _) rfl) ?_
    refine wl_h hS25.toHeld (r_box ty39 (k := 1) .here rfl rfl rfl (v := .slice _ _ _) rfl) <| wl_h hS25.toHeld (r_len Tryz.underlying39 (a := _) (n := _) (c := _) rfl) <| wl_h hS25.toHeld (r_gtr (a := _) (b := _) rfl rfl) <| wl_nil <| c_cond (c := _) rfl (fun h28 => ?_) (fun h28 => ?_)
    ·replace hM := bif_t h28 hM
     refine c_seq <| c_region <| wl_h hS25.toHeld (r_fieldAddr fld41_1 (b := _) (o := _) rfl) <| wl_h hS25.toHeld (r_box ty39 (k := 1) .here rfl rfl rfl (v := .slice _ _ _) rfl) ?_
     obtain ⟨x29, hx30, h31, h32, hM⟩ := getK_ok hM
     obtain ⟨b33, o34, rfl⟩ := RSl.elem_a hr7 hx30
     obtain ⟨cs35, hI36, hR37⟩ := RSl.elem_at hr7 hx30
     obtain rfl := hR37
     refine wl_h hS25.toHeld (r_indexAddr Tryz.underlying39 ty47 (b := _) (o := _) (n := _) (c := _) (i := 0) rfl rfl h31 (RSl.lt hr7 h32)) <| wl_h hS25.toHeld (r_fieldAddr fld47_0 (b := _) (o := _) rfl) <| wl_h hS25.toHeld (r_imm ty3 (k := 0) hI36 rfl rfl rfl (v := .int .i64 _) rfl) ?_
     obtain ⟨hc38, hM⟩ := chk_ok hM
     refine wl_h hS25.toHeld (r_shl (a := _) (b := _) rfl rfl hc38) <| wl_alloc ty3 rfl hS25 ?_
     intro b39 w40 hS41
     refine wl_store_box ty3 hS41 rfl (v := .int .i64 _) rfl (vs := [.int .i64 _]) rfl rfl rfl .here (cs' := [.int .i64 _]) rfl rfl ?_
     intro w42 hS43
     refine wl_nil <| c_seq <| c_seq <| c_region <| wl_h hS43.toHeld (r_fieldAddr fld41_0 (b := _) (o := _) rfl) ?_
     refine wl_h hS43.toHeld (r_box ty3 (k := 0) (.there .here) rfl rfl rfl (v := .int .i64 _) rfl) <| wl_h hS43.toHeld (r_move (v := .int .i64 _) rfl) <| wl_nil <| c_block <| c_loop (fun k f w => ∃ (x447 : Int) (y448 : Int), mg46_l0 fuel r3 k x447 y448 = some r ∧ St w m (.box b39 3 [.int .i64 y448] :: .box b9 41 [.int .i64 r3.corners, .slice (some ⟨b33, o34, none⟩) r3.streets.length c6] :: L) ∧ f 1 = .pointer (some ⟨b9, 0, none⟩) ∧ f 3 = .pointer (some ⟨b39, 0, none⟩) ∧ f 31 = .int .i64 r3.corners ∧ f 32 = .int .i64 x447) fuel ⟨0, ishl 1 x29.a, hM, hS43, rfl, rfl, rfl, rfl⟩ ?_
     rintro k_0 f449 w450 ⟨x447, y448, hM, hS452, e453, e454, e455, e456⟩
     refine c_know (t := 1) e453 <| c_know (t := 3) e454 <| c_know (t := 31) e455 <| c_know (t := 32) e456 ?_
     clear e453 e454 e455 e456
     rcases k_0 with _ | k_0
     · exact none_ne hM
     rw [mg46_l0] at hM
     refine c_seq <| c_region <| wl_h hS452.toHeld (r_lss (a := _) (b := _) rfl rfl) <| wl_nil <| c_seq <| c_cond (c := _) rfl (fun h457 => ?_) (fun h457 => ?_)
     ·replace hM := bif_t h457 hM
      refine c_skip <| c_seq <| c_block <| c_seq <| c_region <| wl_h hS452.toHeld (r_fieldAddr fld41_1 (b := _) (o := _) rfl) ?_
      refine wl_h hS452.toHeld (r_box ty39 (k := 1) (.there .here) rfl rfl rfl (v := .slice _ _ _) rfl) <| wl_h hS452.toHeld (r_len Tryz.underlying39 (a := _) (n := _) (c := _) rfl) <| wl_h hS452.toHeld (r_move (v := .int .i64 _) rfl) <| wl_nil <| c_block <| c_loop (fun k f w => ∃ (x567 : Int) (y568 : Int), mg46_l1 fuel r3 x447 (mg46_l0 fuel r3 k_0) k x567 y568 = some r ∧ St w m (.box b39 3 [.int .i64 y568] :: .box b9 41 [.int .i64 r3.corners, .slice (some ⟨b33, o34, none⟩) r3.streets.length c6] :: L) ∧ f 1 = .pointer (some ⟨b9, 0, none⟩) ∧ f 3 = .pointer (some ⟨b39, 0, none⟩) ∧ f 31 = .int .i64 r3.corners ∧ f 32 = .int .i64 x447 ∧ f 35 = .slice (some ⟨b33, o34, none⟩) r3.streets.length c6 ∧ f 36 = .int .i64 ((r3.streets.length : Nat) : Int) ∧ f 37 = .int .i64 x567) fuel ⟨0, y448, hM, hS452, rfl, rfl, rfl, rfl, rfl, rfl, rfl⟩ ?_
      rintro k_1 f569 w570 ⟨x567, y568, hM, hS572, e573, e574, e575, e576, e577, e578, e579⟩
      refine c_know (t := 1) e573 <| c_know (t := 3) e574 <| c_know (t := 31) e575 <| c_know (t := 32) e576 <| c_know (t := 35) e577 ?_
      refine c_know (t := 36) e578 <| c_know (t := 37) e579 ?_
      clear e573 e574 e575 e576 e577 e578 e579
      rcases k_1 with _ | k_1
      · exact none_ne hM
      rw [mg46_l1] at hM
      refine c_seq <| c_region <| wl_h hS572.toHeld (r_lss (a := _) (b := _) rfl rfl) <| wl_nil <| c_seq <| c_cond (c := _) rfl (fun h580 => ?_) (fun h580 => ?_)
      ·replace hM := bif_t h580 hM
       refine c_skip <| c_seq <| c_block <| c_seq <| c_region ?_
       obtain ⟨x581, hx582, h583, h584, hM⟩ := getK_ok hM
       obtain ⟨cs585, hI586, hR587⟩ := RSl.elem_at hr7 hx582
       obtain rfl := hR587
       refine wl_h hS572.toHeld (r_indexAddr Tryz.underlying39 ty47 (b := _) (o := _) (n := _) (c := _) (i := x567) rfl rfl h583 (RSl.lt hr7 h584)) <| wl_h hS572.toHeld (r_imm ty47 (k := 0) hI586 rfl rfl rfl (v := .agg #[.int .i64 _, .int .i64 _, .int .i64 _]) rfl) <| wl_alloc ty47 rfl hS572 ?_
       intro b588 w589 hS590
       refine wl_store_box ty47 hS590 rfl (v := .agg #[.int .i64 _, .int .i64 _, .int .i64 _]) rfl (vs := [.int .i64 _, .int .i64 _, .int .i64 _]) rfl rfl rfl .here (cs' := [.int .i64 _, .int .i64 _, .int .i64 _]) rfl rfl ?_
       intro w591 hS592
       refine wl_nil <| c_seq <| c_region <| wl_h hS592.toHeld (r_box ty3 (k := 0) (.there .here) rfl rfl rfl (v := .int .i64 _) rfl) <| wl_h hS592.toHeld (r_fieldAddr fld47_0 (b := _) (o := _) rfl) ?_
       refine wl_h hS592.toHeld (r_box ty3 (k := 0) .here rfl rfl rfl (v := .int .i64 _) rfl) ?_
       obtain ⟨hc593, hM⟩ := chk_ok hM
       refine wl_h hS592.toHeld (r_shr (a := _) (b := _) rfl rfl hc593) <| wl_h hS592.toHeld (r_and (a := _) (b := _) rfl rfl) <| wl_h hS592.toHeld (r_eql (a := _) (b := _) rfl rfl) <| wl_h hS592.toHeld (r_move (v := .bool _) rfl) <| wl_split rfl (c := _) (t := 47) (fun h594 => ?_) (fun h594 => ?_)
       ·replace hM := bif_t h594 hM
        refine wl_off (t := 47) (b := true) rfl rfl rfl ?_
        refine wl_off (t := 47) (b := true) rfl rfl rfl ?_
        refine wl_off (t := 47) (b := true) rfl rfl rfl ?_
        refine wl_off (t := 47) (b := true) rfl rfl rfl ?_
        refine wl_off (t := 47) (b := true) rfl rfl rfl ?_
        refine wl_off (t := 47) (b := true) rfl rfl rfl ?_
        refine wl_h hS592.toHeld (r_pick_t rfl (v := .bool _) rfl) <| wl_nil <| c_true rfl ?_
        have hH603 := (hS592.weaken (.cons_cons _ (.cons _ (.cons_cons _ (.refl _))))).toHeld
        refine c_draw (k := 10) (fun w => Held w m (.box b588 47 [.int .i64 x581.a, .int .i64 x581.b, .int .i64 x581.length] :: .box b9 41 [.int .i64 r3.corners, .slice (some ⟨b33, o34, none⟩) r3.streets.length c6] :: L)) mixed rfl ?_
        replace hH603 := hH603.drew1
        have hS604 := hS592.drew1
        refine d_v (i := 1) rfl (by kernel_rfl) rfl (r_fieldAddr fld47_0 (b := _) (o := _) rfl) hH603 ?_
        refine d_v (i := 2) rfl (by kernel_rfl) rfl (r_box ty3 (k := 0) .here rfl rfl rfl (v := .int .i64 _) rfl) hH603 ?_
        obtain ⟨hc605, hM⟩ := chk_ok hM
        refine d_v (i := 3) rfl (by kernel_rfl) rfl (r_shl (a := _) (b := _) rfl rfl hc605) hH603 ?_
        refine d_v (i := 4) rfl (by kernel_rfl) rfl (r_fieldAddr fld47_1 (b := _) (o := _) rfl) hH603 ?_
        refine d_v (i := 5) rfl (by kernel_rfl) rfl (r_box ty3 (k := 1) .here rfl rfl rfl (v := .int .i64 _) rfl) hH603 ?_
        obtain ⟨hc606, hM⟩ := chk_ok hM
        refine d_v (i := 6) rfl (by kernel_rfl) rfl (r_shl (a := _) (b := _) rfl rfl hc606) hH603 ?_
        refine d_v (i := 7) rfl (by kernel_rfl) rfl (r_or (a := _) (b := _) rfl rfl) hH603 ?_
        refine d_all (rs := [0]) (by kernel_rfl) (by simp) (fun j hj o ho => ?_)
        obtain rfl : j = 0 := by simpa using hj
        cases ho
        refine wl_h hS604.toHeld (r_box ty3 (k := 0) (.there .here) rfl rfl rfl (v := .int .i64 _) rfl) <| wl_nil ?_
        have hH607 := hS604.toHeld.mono (Mem.le_refl _) (List.Sublist.subset (.cons_cons _ (.cons _ (.cons_cons _ (.refl _)))))
        refine ⟨hH607, ?_⟩
        refine d_v (i := 8) rfl (by kernel_rfl) rfl (r_or (a := _) (b := _) rfl rfl) hH607 ?_
        refine d_all (rs := [9]) (by kernel_rfl) (by simp) (fun j hj o ho => ?_)
        obtain rfl : j = 9 := by simpa using hj
        cases ho
        refine wl_store_box ty3 hS604 rfl (v := .int .i64 _) rfl (vs := [.int .i64 _]) rfl rfl rfl (.there .here) (cs' := [.int .i64 _]) rfl rfl ?_
        intro w608 hS609
        refine wl_nil ?_
        have hH610 := hS609.toHeld.mono (Mem.le_refl _) (List.Sublist.subset (.cons_cons _ (.cons _ (.cons_cons _ (.refl _)))))
        refine ⟨hH610, ?_⟩
        refine d_end (by kernel_rfl) ?_
        refine c_nil <| q_norm <| c_region ?_
        obtain ⟨hc611, hM⟩ := chk_ok hM
        refine wl_h hS609.toHeld (r_add (a := _) (b := _) rfl rfl (ok_lo hc611) (ok_hi hc611)) <| wl_h hS609.toHeld (r_move (v := .int .i64 _) rfl) <| wl_nil <| c_nil <| q_loop ?_
        have hS612 := hS609.weaken (.cons _ (.cons_cons _ (.cons_cons _ (.refl _))))
        exact ⟨k_1, Nat.lt_succ_self _, x567 + 1, ior y568 (ior (ishl 1 x581.a) (ishl 1 x581.b)), hM, hS612, rfl, rfl, rfl, rfl, rfl, rfl, rfl⟩
       ·replace hM := bif_f h594 hM
        refine wl_on (t := 47) rfl rfl ?_
        refine wl_h hS592.toHeld (r_box ty3 (k := 0) (.there .here) rfl rfl rfl (v := .int .i64 _) rfl) <| wl_on (t := 47) rfl rfl ?_
        refine wl_h hS592.toHeld (r_fieldAddr fld47_1 (b := _) (o := _) rfl) <| wl_on (t := 47) rfl rfl ?_
        refine wl_h hS592.toHeld (r_box ty3 (k := 1) .here rfl rfl rfl (v := .int .i64 _) rfl) <| wl_on (t := 47) rfl rfl ?_
        obtain ⟨hc613, hM⟩ := chk_ok hM
        refine wl_h hS592.toHeld (r_shr (a := _) (b := _) rfl rfl hc613) <| wl_on (t := 47) rfl rfl ?_
        refine wl_h hS592.toHeld (r_and (a := _) (b := _) rfl rfl) <| wl_on (t := 47) rfl rfl ?_
        refine wl_h hS592.toHeld (r_eql (a := _) (b := _) rfl rfl) <| wl_h hS592.toHeld (r_pick_f rfl (v := .bool _) rfl) <| wl_nil <| c_cond (c := _) rfl (fun h614 => ?_) (fun h614 => ?_)
        ·replace hM := bif_t h614 hM
         have hH623 := (hS592.weaken (.cons_cons _ (.cons _ (.cons_cons _ (.refl _))))).toHeld
         refine c_draw (k := 10) (fun w => Held w m (.box b588 47 [.int .i64 x581.a, .int .i64 x581.b, .int .i64 x581.length] :: .box b9 41 [.int .i64 r3.corners, .slice (some ⟨b33, o34, none⟩) r3.streets.length c6] :: L)) mixed rfl ?_
         replace hH623 := hH623.drew1
         have hS624 := hS592.drew1
         refine d_v (i := 1) rfl (by kernel_rfl) rfl (r_fieldAddr fld47_0 (b := _) (o := _) rfl) hH623 ?_
         refine d_v (i := 2) rfl (by kernel_rfl) rfl (r_box ty3 (k := 0) .here rfl rfl rfl (v := .int .i64 _) rfl) hH623 ?_
         obtain ⟨hc625, hM⟩ := chk_ok hM
         refine d_v (i := 3) rfl (by kernel_rfl) rfl (r_shl (a := _) (b := _) rfl rfl hc625) hH623 ?_
         refine d_v (i := 4) rfl (by kernel_rfl) rfl (r_fieldAddr fld47_1 (b := _) (o := _) rfl) hH623 ?_
         refine d_v (i := 5) rfl (by kernel_rfl) rfl (r_box ty3 (k := 1) .here rfl rfl rfl (v := .int .i64 _) rfl) hH623 ?_
         obtain ⟨hc626, hM⟩ := chk_ok hM
         refine d_v (i := 6) rfl (by kernel_rfl) rfl (r_shl (a := _) (b := _) rfl rfl hc626) hH623 ?_
         refine d_v (i := 7) rfl (by kernel_rfl) rfl (r_or (a := _) (b := _) rfl rfl) hH623 ?_
         refine d_all (rs := [0]) (by kernel_rfl) (by simp) (fun j hj o ho => ?_)
         obtain rfl : j = 0 := by simpa using hj
         cases ho
         refine wl_h hS624.toHeld (r_box ty3 (k := 0) (.there .here) rfl rfl rfl (v := .int .i64 _) rfl) <| wl_nil ?_
         have hH627 := hS624.toHeld.mono (Mem.le_refl _) (List.Sublist.subset (.cons_cons _ (.cons _ (.cons_cons _ (.refl _)))))
         refine ⟨hH627, ?_⟩
         refine d_v (i := 8) rfl (by kernel_rfl) rfl (r_or (a := _) (b := _) rfl rfl) hH627 ?_
         refine d_all (rs := [9]) (by kernel_rfl) (by simp) (fun j hj o ho => ?_)
         obtain rfl : j = 9 := by simpa using hj
         cases ho
         refine wl_store_box ty3 hS624 rfl (v := .int .i64 _) rfl (vs := [.int .i64 _]) rfl rfl rfl (.there .here) (cs' := [.int .i64 _]) rfl rfl ?_
         intro w628 hS629
         refine wl_nil ?_
         have hH630 := hS629.toHeld.mono (Mem.le_refl _) (List.Sublist.subset (.cons_cons _ (.cons _ (.cons_cons _ (.refl _)))))
         refine ⟨hH630, ?_⟩
         refine d_end (by kernel_rfl) ?_
         refine c_nil <| q_norm <| c_region ?_
         obtain ⟨hc631, hM⟩ := chk_ok hM
         refine wl_h hS629.toHeld (r_add (a := _) (b := _) rfl rfl (ok_lo hc631) (ok_hi hc631)) <| wl_h hS629.toHeld (r_move (v := .int .i64 _) rfl) <| wl_nil <| c_nil <| q_loop ?_
         have hS632 := hS629.weaken (.cons _ (.cons_cons _ (.cons_cons _ (.refl _))))
         exact ⟨k_1, Nat.lt_succ_self _, x567 + 1, ior y568 (ior (ishl 1 x581.a) (ishl 1 x581.b)), hM, hS632, rfl, rfl, rfl, rfl, rfl, rfl, rfl⟩
        ·replace hM := bif_f h614 hM
         refine c_skip <| c_nil <| q_norm <| c_region ?_
         obtain ⟨hc633, hM⟩ := chk_ok hM
         refine wl_h hS592.toHeld (r_add (a := _) (b := _) rfl rfl (ok_lo hc633) (ok_hi hc633)) <| wl_h hS592.toHeld (r_move (v := .int .i64 _) rfl) <| wl_nil <| c_nil <| q_loop ?_
         have hS634 := hS592.weaken (.cons _ (.cons_cons _ (.cons_cons _ (.refl _))))
         exact ⟨k_1, Nat.lt_succ_self _, x567 + 1, y568, hM, hS634, rfl, rfl, rfl, rfl, rfl, rfl, rfl⟩
      ·replace hM := bif_f h580 hM
       refine c_exit <| q_loopx <| q_hit <| c_nil <| q_norm <| c_region ?_
       obtain ⟨hc635, hM⟩ := chk_ok hM
       refine wl_h hS572.toHeld (r_add (a := _) (b := _) rfl rfl (ok_lo hc635) (ok_hi hc635)) <| wl_h hS572.toHeld (r_move (v := .int .i64 _) rfl) <| wl_nil <| c_nil <| q_loop ?_
       exact ⟨k_0, Nat.lt_succ_self _, x447 + 1, y568, hM, hS572, rfl, rfl, rfl, rfl⟩
     ·replace hM := bif_f h457 hM
      refine c_exit <| q_loopx <| q_hit <| c_seq <| c_region <| wl_h hS452.toHeld (r_fieldAddr fld41_1 (b := _) (o := _) rfl) ?_
      refine wl_h hS452.toHeld (r_box ty39 (k := 1) (.there .here) rfl rfl rfl (v := .slice _ _ _) rfl) <| wl_h hS452.toHeld (r_makeFunc (vs := [.pointer (some ⟨_, _, none⟩)]) rfl) ?_
      obtain ⟨r636, hq637, hM⟩ := bnd_ok hM
      refine wl_call ent98 (vals := [.slice _ _ _, .func (.func 100) #[] #[.pointer (some ⟨_, _, none⟩)]]) rfl (cg98 hS452 hr7 (q6 := (fun x0 => mg100 fuel x0 y448)) (caps8 := [.pointer (some ⟨b39, 0, none⟩)]) ent100 (fun m' E w' cs0 x0 r hle hSt h0 hq => cg100 hSt h0 (Own.app .here) hq) hq637) ?_
      rintro _ w639 ⟨rfl, hS640⟩
      refine wl_nil <| c_cond (c := _) rfl (fun h641 => ?_) (fun h641 => ?_)
      ·replace hM := bif_t h641 hM
       refine c_seq <| c_region <| wl_h hS640.toHeld (r_assign (v := .int .i64 _) rfl) <| wl_nil <| c_ret <| ret_tmp (t := 2) rfl (v := .int .i64 _) rfl ?_
       obtain rfl := some_eq hM
       have hS642 := hS640.weaken (.cons _ (.cons _ (.refl _)))
       exact ⟨rfl, hS642⟩
      ·replace hM := bif_f h641 hM
       refine c_skip <| c_seq <| c_seq <| c_region <| wl_h hS640.toHeld (r_box ty41 (k := 0) (.there .here) rfl rfl rfl (v := .agg #[.int .i64 _, .slice _ _ _]) rfl) ?_
       obtain ⟨r643, hq644, hM⟩ := bnd_ok hM
       refine wl_call ent101 (vals := [.agg #[.int .i64 _, .slice _ _ _]]) rfl (cg101 hS640 hk8 hq644) ?_
       rintro _ w652 ⟨a646, n647, c648, cs649, rfl, rfl, hrc650, hS653⟩
       refine wl_h hS653.toHeld (r_len Tryz.underlying26 (a := _) (n := _) (c := _) rfl) <| wl_h hS653.toHeld (r_gtr (a := _) (b := _) rfl rfl) <| wl_nil <| c_cond (c := _) rfl (fun h654 => ?_) (fun h654 => ?_)
       ·replace hM := bif_t h654 hM
        refine c_seq <| c_region <| wl_h hS653.toHeld (r_assign (v := .int .i64 _) rfl) <| wl_nil <| c_ret <| ret_tmp (t := 2) rfl (v := .int .i64 _) rfl ?_
        obtain rfl := some_eq hM
        have hS655 := hS653.weaken (.cons _ (.cons _ (.cons _ (.refl _))))
        exact ⟨rfl, hS655⟩
       ·replace hM := bif_f h654 hM
        refine c_skip <| c_seq <| c_region <| wl_h hS653.toHeld (r_assign (v := .int .i64 _) rfl) <| wl_nil <| c_ret <| ret_tmp (t := 2) rfl (v := .int .i64 _) rfl ?_
        obtain rfl := some_eq hM
        have hS656 := hS653.weaken (.cons _ (.cons _ (.cons _ (.refl _))))
        exact ⟨rfl, hS656⟩
    ·replace hM := bif_f h28 hM
     refine c_skip <| c_seq <| c_seq <| c_region <| wl_h hS25.toHeld (r_box ty41 (k := 0) .here rfl rfl rfl (v := .agg #[.int .i64 _, .slice _ _ _]) rfl) ?_
     obtain ⟨r657, hq658, hM⟩ := bnd_ok hM
     refine wl_call ent101 (vals := [.agg #[.int .i64 _, .slice _ _ _]]) rfl (cg101 hS25 hk8 hq658) ?_
     rintro _ w666 ⟨a660, n661, c662, cs663, rfl, rfl, hrc664, hS667⟩
     refine wl_h hS667.toHeld (r_len Tryz.underlying26 (a := _) (n := _) (c := _) rfl) <| wl_h hS667.toHeld (r_gtr (a := _) (b := _) rfl rfl) <| wl_nil <| c_cond (c := _) rfl (fun h668 => ?_) (fun h668 => ?_)
     ·replace hM := bif_t h668 hM
      refine c_seq <| c_region <| wl_h hS667.toHeld (r_assign (v := .int .i64 _) rfl) <| wl_nil <| c_ret <| ret_tmp (t := 2) rfl (v := .int .i64 _) rfl ?_
      obtain rfl := some_eq hM
      have hS669 := hS667.weaken (.cons _ (.cons _ (.refl _)))
      exact ⟨rfl, hS669⟩
     ·replace hM := bif_f h668 hM
      refine c_skip <| c_seq <| c_region <| wl_h hS667.toHeld (r_assign (v := .int .i64 _) rfl) <| wl_nil <| c_ret <| ret_tmp (t := 2) rfl (v := .int .i64 _) rfl ?_
      obtain rfl := some_eq hM
      have hS670 := hS667.weaken (.cons _ (.cons _ (.refl _)))
      exact ⟨rfl, hS670⟩

theorem cg119 {m : Mem} {L : List Atom} {w : World} {cs1 : List Value} {s3 : Street} {b4 : Nat} {y6 : Int} (hS : St w m L) (hx2 : RStreet m cs1 s3) (hb5 : K.Own L (.box b4 3 [.int .i64 y6])) {fuel : Nat} {r : Bool} (hM : mg119 fuel s3 y6 = some r) : Calls P0 119 [.agg cs1.toArray, .pointer (some ⟨b4, 0, none⟩)].toArray w (Ret fun v w' => v = .bool r ∧ St w' m (L)) := by
 rw [mg119] at hM
 obtain rfl := hx2
 refine enter Tryz.func119 rfl Tryz.ntmps119 (Nat.le_of_ble_eq_true rfl) ?_
 refine c_seq <| c_region <| wl_box hS (v := .agg #[.int .i64 _, .int .i64 _, .int .i64 _]) rfl (cs := [.int .i64 _, .int .i64 _, .int .i64 _]) rfl ?_
 intro b7 w8 hS9
 refine wl_h hS9.toHeld (r_assign (v := .bool _) rfl) <| wl_nil <| c_seq <| c_region <| wl_h hS9.toHeld (r_fieldAddr fld47_0 (b := _) (o := _) rfl) ?_
 refine wl_h hS9.toHeld (r_box ty3 (k := 0) .here rfl rfl rfl (v := .int .i64 _) rfl) <| wl_h hS9.toHeld (r_box ty3 (k := 0) (.there hb5) rfl rfl rfl (v := .int .i64 _) rfl) <| wl_h hS9.toHeld (r_eql (a := _) (b := _) rfl rfl) <| wl_h hS9.toHeld (r_move (v := .bool _) rfl) <| wl_split rfl (c := _) (t := 8) (fun h10 => ?_) (fun h10 => ?_)
 ·replace hM := bif_t h10 hM
  refine wl_off (t := 8) (b := true) rfl rfl rfl ?_
  refine wl_off (t := 8) (b := true) rfl rfl rfl ?_
  refine wl_off (t := 8) (b := true) rfl rfl rfl ?_
  refine wl_off (t := 8) (b := true) rfl rfl rfl ?_
  refine wl_h hS9.toHeld (r_pick_t rfl (v := .bool _) rfl) <| wl_h hS9.toHeld (r_assign (v := .bool _) rfl) <| wl_nil <| c_ret <| ret_tmp (t := 3) rfl (v := .bool _) rfl ?_
  obtain rfl := some_eq hM
  have hS11 := hS9.weaken (.cons _ (.refl _))
  exact ⟨rfl, hS11⟩
 ·replace hM := bif_f h10 hM
  refine wl_on (t := 8) rfl rfl ?_
  refine wl_h hS9.toHeld (r_fieldAddr fld47_1 (b := _) (o := _) rfl) <| wl_on (t := 8) rfl rfl ?_
  refine wl_h hS9.toHeld (r_box ty3 (k := 1) .here rfl rfl rfl (v := .int .i64 _) rfl) <| wl_on (t := 8) rfl rfl ?_
  refine wl_h hS9.toHeld (r_box ty3 (k := 0) (.there hb5) rfl rfl rfl (v := .int .i64 _) rfl) <| wl_on (t := 8) rfl rfl ?_
  refine wl_h hS9.toHeld (r_eql (a := _) (b := _) rfl rfl) <| wl_h hS9.toHeld (r_pick_f rfl (v := .bool _) rfl) <| wl_h hS9.toHeld (r_assign (v := .bool _) rfl) <| wl_nil <| c_ret <| ret_tmp (t := 3) rfl (v := .bool _) rfl ?_
  obtain rfl := some_eq hM
  have hS12 := hS9.weaken (.cons _ (.refl _))
  exact ⟨rfl, hS12⟩

theorem cg79 {m : Mem} {L : List Atom} {w : World} {cs1 : List Value} {r3 : Round} {from9 : Int} (hS : St w m L) (hx2 : RRound m cs1 r3) {fuel : Nat} {r : Bool} (hM : mg79 fuel r3 from9 = some r) : Calls P0 79 [.agg cs1.toArray, .int .i64 from9].toArray w (Ret fun v w' => v = .bool r ∧ St w' m (L)) := by
 rw [mg79] at hM
 have hk8 := hx2
 obtain ⟨a4, n5, c6, rfl, hr7⟩ := hx2
 obtain rfl := hr7.1
 refine enter Tryz.func79 rfl Tryz.ntmps79 (Nat.le_of_ble_eq_true rfl) ?_
 refine c_seq <| c_region <| wl_box hS (v := .agg #[.int .i64 _, .slice _ _ _]) rfl (cs := [.int .i64 _, .slice _ _ _]) rfl ?_
 intro b10 w11 hS12
 refine wl_box hS12 (v := .int .i64 _) rfl (cs := [.int .i64 _]) rfl ?_
 intro b13 w14 hS15
 refine wl_h hS15.toHeld (r_assign (v := .bool _) rfl) <| wl_nil <| c_seq <| c_region <| wl_h hS15.toHeld (r_box ty3 (k := 0) .here rfl rfl rfl (v := .int .i64 _) rfl) ?_
 refine wl_h hS15.toHeld (r_fieldAddr fld41_0 (b := _) (o := _) rfl) <| wl_h hS15.toHeld (r_box ty3 (k := 0) (.there .here) rfl rfl rfl (v := .int .i64 _) rfl) ?_
 obtain ⟨hc16, hM⟩ := chk_ok hM
 refine wl_h hS15.toHeld (r_sub (a := _) (b := _) rfl rfl (ok_lo hc16) (ok_hi hc16)) ?_
 obtain ⟨r17, hq18, hM⟩ := bnd_ok hM
 refine wl_call ent59 (vals := [.int .i64 _, .int .i64 _, .int .i64 _]) rfl (cg59 hS15 hq18) ?_
 rintro _ w20 ⟨rfl, hS21⟩
 refine wl_h hS21.toHeld (r_move (v := .bool _) rfl) <| wl_split rfl (c := _) (t := 10) (fun h22 => ?_) (fun h22 => ?_)
 ·replace hM := bif_t h22 hM
  refine wl_on (t := 10) rfl rfl ?_
  refine wl_h hS21.toHeld (r_fieldAddr fld41_1 (b := _) (o := _) rfl) <| wl_on (t := 10) rfl rfl ?_
  refine wl_h hS21.toHeld (r_box ty39 (k := 1) (.there .here) rfl rfl rfl (v := .slice _ _ _) rfl) <| wl_on (t := 10) rfl rfl ?_
  refine wl_h hS21.toHeld (r_len Tryz.underlying39 (a := _) (n := _) (c := _) rfl) <| wl_on (t := 10) rfl rfl ?_
  refine wl_h hS21.toHeld (r_eql (a := _) (b := _) rfl rfl) <| wl_on (t := 10) rfl rfl ?_
  refine wl_h hS21.toHeld (r_move (v := .bool _) rfl) <| wl_split rfl (c := _) (t := 15) (fun h23 => ?_) (fun h23 => ?_)
  ·replace hM := bif_t h23 hM
   refine wl_off (t := 15) (b := true) rfl rfl rfl ?_
   refine wl_off (t := 15) (b := true) rfl rfl rfl ?_
   refine wl_off (t := 15) (b := true) rfl rfl rfl ?_
   refine wl_off (t := 15) (b := true) rfl rfl rfl ?_
   refine wl_on (t := 10) rfl rfl ?_
   refine wl_h hS21.toHeld (r_pick_t rfl (v := .bool _) rfl) <| wl_h hS21.toHeld (r_pick_t rfl (v := .bool _) rfl) <| wl_h hS21.toHeld (r_assign (v := .bool _) rfl) <| wl_nil <| c_ret <| ret_tmp (t := 4) rfl (v := .bool _) rfl ?_
   obtain rfl := some_eq hM
   have hS24 := hS21.weaken (.cons _ (.cons _ (.refl _)))
   exact ⟨rfl, hS24⟩
  ·replace hM := bif_f h23 hM
   refine wl_on (t := 15) rfl rfl ?_
   refine wl_h hS21.toHeld (r_fieldAddr fld41_1 (b := _) (o := _) rfl) <| wl_on (t := 15) rfl rfl ?_
   refine wl_h hS21.toHeld (r_box ty39 (k := 1) (.there .here) rfl rfl rfl (v := .slice _ _ _) rfl) <| wl_on (t := 15) rfl rfl ?_
   refine wl_h hS21.toHeld (r_makeFunc (vs := [.pointer (some ⟨_, _, none⟩)]) rfl) <| wl_on (t := 15) rfl rfl ?_
   obtain ⟨r25, hq26, hM⟩ := bnd_ok hM
   refine wl_call ent98 (vals := [.slice _ _ _, .func (.func 119) #[] #[.pointer (some ⟨_, _, none⟩)]]) rfl (cg98 hS21 hr7 (q6 := (fun x0 => mg119 fuel x0 from9)) (caps8 := [.pointer (some ⟨b13, 0, none⟩)]) ent119 (fun m' E w' cs0 x0 r hle hSt h0 hq => cg119 hSt h0 (Own.app .here) hq) hq26) ?_
   rintro _ w28 ⟨rfl, hS29⟩
   refine wl_on (t := 10) rfl rfl ?_
   refine wl_h hS29.toHeld (r_pick_f rfl (v := .bool _) rfl) <| wl_h hS29.toHeld (r_pick_t rfl (v := .bool _) rfl) <| wl_h hS29.toHeld (r_assign (v := .bool _) rfl) <| wl_nil <| c_ret <| ret_tmp (t := 4) rfl (v := .bool _) rfl ?_
   obtain rfl := some_eq hM
   have hS30 := hS29.weaken (.cons _ (.cons _ (.refl _)))
   exact ⟨rfl, hS30⟩
 ·replace hM := bif_f h22 hM
  refine wl_off (t := 10) (b := false) rfl rfl rfl ?_
  refine wl_off (t := 10) (b := false) rfl rfl rfl ?_
  refine wl_off (t := 10) (b := false) rfl rfl rfl ?_
  refine wl_off (t := 10) (b := false) rfl rfl rfl ?_
  refine wl_off (t := 10) (b := false) rfl rfl rfl ?_
  refine wl_none (t := 15) rfl rfl ?_
  refine wl_none (t := 15) rfl rfl ?_
  refine wl_none (t := 15) rfl rfl ?_
  refine wl_none (t := 15) rfl rfl ?_
  refine wl_off (t := 10) (b := false) rfl rfl rfl ?_
  refine wl_h hS21.toHeld (r_pick_f rfl (v := .bool _) rfl) <| wl_h hS21.toHeld (r_assign (v := .bool _) rfl) <| wl_nil <| c_ret <| ret_tmp (t := 4) rfl (v := .bool _) rfl ?_
  obtain rfl := some_eq hM
  have hS31 := hS21.weaken (.cons _ (.cons _ (.refl _)))
  exact ⟨rfl, hS31⟩

end Go.Proofs.YtdhhimfcjoclfaaGreat
