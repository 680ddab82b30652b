import Derived.Test.YtdhhimfcjoclfaaGreatVA2
set_option linter.unusedVariables false
set_option linter.unusedSimpArgs false
set_option maxRecDepth 100000
namespace Go.Proofs.YtdhhimfcjoclfaaGreat
open Go Go.K Go.V Go.Proofs
attribute [local irreducible] Calls
theorem cg120 {m : Mem} {L : List Atom} {w : World} {cs1 : List Value} {r3 : Round} {from9 : Int} (hS : St w m L) (hx2 : RRound m cs1 r3) {fuel : Nat} {r : (List WayR)} (hM : mg120 fuel r3 from9 = some r) : Calls P0 120 [.agg cs1.toArray, .int .i64 from9].toArray w (Ret fun v w' => ∃ (m' : Mem) (a0 : Option Addr) (n0 : Nat) (c0 : Nat) (cs0 : List Value), v = .slice a0 n0 c0 ∧ m ≤ m' ∧ n0 = r.length ∧ RCs 2 RWayR m' cs0 r ∧ St w' m' (.row (.slice a0 n0 c0) 190 2 cs0 :: L)) := by
 rw [mg120] at hM
 have hk8 := hx2
 obtain ⟨a4, n5, c6, rfl, hr7⟩ := hx2
 obtain rfl := hr7.1
 refine enter Tryz.func120 rfl Tryz.ntmps120 (Nat.le_of_ble_eq_true rfl) ?_
 refine c_seq <| c_region <| wl_box hS (v := .agg #[.int .i64 _, .slice _ _ _]) rfl (cs := [.int .i64 _, .slice _ _ _]) rfl ?_
 intro b10 w11 hS12
 refine wl_h hS12.toHeld (r_assign (v := .slice _ _ _) rfl) <| wl_nil <| c_seq <| c_region <| wl_h hS12.toHeld (r_fieldAddr fld41_0 (b := _) (o := _) rfl) ?_
 refine wl_h hS12.toHeld (r_box ty3 (k := 0) .here rfl rfl rfl (v := .int .i64 _) rfl) ?_
 obtain ⟨hc15, hM⟩ := chk_ok hM
 refine wl_makeSlice Tryz.underlying185 ty190 rfl (by decide) hS12 (l := _) (c := _) rfl rfl (mk_0 hc15) (mk_1 hc15) (mk_2 hc15 (by decide)) (mk_3 hc15) ?_
 intro b13 w14 hS16
 have hrc18 : RCs 2 RWayR m (reps [.int .i64 0, .slice none 0 0] r3.corners.toNat) ((List.replicate r3.corners.toNat (⟨0, none⟩ : WayR) : List WayR) : List WayR) := RCs.reps rfl ⟨_, _, _, rfl, ROp.nil⟩ _
 refine wl_h hS16.toHeld (r_assign (v := .slice _ _ _) rfl) <| wl_nil <| c_seq <| c_region <| wl_h hS16.toHeld (r_move (v := .slice _ _ _) rfl) ?_
 refine wl_h hS16.toHeld (r_move (v := .int .i64 _) rfl) <| wl_h hS16.toHeld (r_fieldAddr fld41_1 (b := _) (o := _) rfl) <| wl_h hS16.toHeld (r_box ty39 (k := 1) (.there .here) rfl rfl rfl (v := .slice _ _ _) rfl) <| wl_h hS16.toHeld (r_len Tryz.underlying39 (a := _) (n := _) (c := _) rfl) ?_
 obtain ⟨hc21, hM⟩ := chk_ok hM
 refine wl_makeSlice Tryz.underlying26 ty3 rfl (by decide) hS16 (l := _) (c := _) rfl rfl (mk_0 hc21) (mk_1 hc21) (mk_2 hc21 (by decide)) (mk_3 hc21) ?_
 intro b19 w20 hS22
 have hrc24 : RCs 1 RInt m (reps [.int .i64 0] ((r3.streets.length : Nat) : Int).toNat) ((List.replicate ((r3.streets.length : Nat) : Int).toNat 0 : List Int) : List Int) := RCs.reps rfl rfl _
 obtain ⟨x25, hx26, h27, h28, hM⟩ := getK_ok hM
 obtain ⟨es29, hes30, hR31⟩ := row_read hrc18 hx26
 have hk36 := hR31
 obtain ⟨a32, n33, c34, rfl, hr35⟩ := hR31
 obtain rfl := (ROp.rsl hr35).1
 refine wl_h hS22.toHeld (r_indexAddr Tryz.underlying185 ty190 (b := _) (o := _) (n := _) (c := _) (i := from9) rfl rfl h27 (row_lt (hS22.toHeld.own (.there .here)) hrc18 (by decide) h28)) <| wl_h hS22.toHeld (r_fieldAddr fld190_1 (b := _) (o := _) rfl) ?_
 obtain ⟨m37, hm38, hS39, hr40⟩ := hS22.freezeR .here hrc24 RInt.mono (by decide)
 have le42 := hm38
 replace hk8 := RRound.mono _ _ _ _ hk8 hm38
 replace hr7 := RSl.mono RStreet.mono hr7 hm38
 replace hrc18 := RCs.mono RWayR.mono hrc18 hm38
 replace hrc24 := RCs.mono RInt.mono hrc24 hm38
 replace hk36 := RWayR.mono _ _ _ _ hk36 hm38
 replace hr35 := ROp.mono RInt.mono hr35 hm38
 obtain ⟨hc44, hM⟩ := chk_ok hM
 have ho45 := ROp.some hr40 hc44
 refine wl_store_row ty26 hS39 rfl (v := .slice _ _ _) rfl (vs := [.slice _ _ _]) rfl rfl rfl .here (Nat.le_trans (by simp only [Nat.zero_add]; omega) (row_room hrc18 hx26)) ?_
 intro w43 hS46
 have hrc47 := RCs.setp hrc18 hx26 (k := 1) (vs := [.slice (some ⟨b19, 0, none⟩) (((r3.streets.length : Nat) : Int).toNat) (((r3.streets.length : Nat) : Int).toNat)]) hes30 (Nat.le_of_ble_eq_true rfl) rfl (y := (⟨x25.length, (some ((List.replicate ((r3.streets.length : Nat) : Int).toNat 0 : List Int) : List Int))⟩ : WayR)) ⟨_, _, _, rfl, ho45⟩
 generalize spl (reps [.int .i64 0, .slice none 0 0] r3.corners.toNat) (0 + from9.toNat * 2 + 1) [.slice (some ⟨b19, 0, none⟩) (((r3.streets.length : Nat) : Int).toNat) (((r3.streets.length : Nat) : Int).toNat)] = cs48 at hS46 hrc47
 refine wl_nil <| c_seq <| c_seq <| c_region <| wl_h hS46.toHeld (r_fieldAddr fld41_0 (b := _) (o := _) rfl) ?_
 refine wl_h hS46.toHeld (r_box ty3 (k := 0) (.there .here) rfl rfl rfl (v := .int .i64 _) rfl) <| wl_h hS46.toHeld (r_move (v := .int .i64 _) rfl) <| wl_nil <| c_block <| c_loop (fun k f w => ∃ (x12939 : Int) (l12940 : List WayR) (m12935 : Mem) (a12941 : Option Addr) (n12942 : Nat) (c12943 : Nat) (cs12944 : List Value), mg120_l0 fuel r3 k x12939 l12940 = some r ∧ m37 ≤ m12935 ∧ n12942 = l12940.length ∧ RCs 2 RWayR m12935 cs12944 l12940 ∧ St w m12935 (.row (.slice a12941 n12942 c12943) 190 2 cs12944 :: .box b10 41 [.int .i64 r3.corners, .slice a4 r3.streets.length c6] :: L) ∧ f 2 = .pointer (some ⟨b10, 0, none⟩) ∧ f 5 = .slice a12941 n12942 c12943 ∧ f 25 = .int .i64 r3.corners ∧ f 26 = .int .i64 x12939) fuel ⟨0, ((List.replicate r3.corners.toNat (⟨0, none⟩ : WayR) : List WayR).set from9.toNat (⟨x25.length, (some ((List.replicate ((r3.streets.length : Nat) : Int).toNat 0 : List Int) : List Int))⟩ : WayR)), m37, (some ⟨b13, 0, none⟩), r3.corners.toNat, r3.corners.toNat, cs48, hM, Mem.le_refl _, row_n (hS46.toHeld.own .here) hrc47 (by decide), hrc47, hS46, rfl, rfl, rfl, rfl⟩ ?_
 rintro k_0 f12947 w12948 ⟨x12939, l12940, m12935, a12941, n12942, c12943, cs12944, hM, hm12936, hn12945, hrc12946, hS12950, e12951, e12952, e12953, e12954⟩
 replace hk8 := RRound.mono _ _ _ _ hk8 hm12936
 replace hr7 := RSl.mono RStreet.mono hr7 hm12936
 replace hrc18 := RCs.mono RWayR.mono hrc18 hm12936
 replace hrc24 := RCs.mono RInt.mono hrc24 hm12936
 replace hk36 := RWayR.mono _ _ _ _ hk36 hm12936
 replace hr35 := ROp.mono RInt.mono hr35 hm12936
 replace hr40 := RSl.mono RInt.mono hr40 hm12936
 replace ho45 := ROp.mono RInt.mono ho45 hm12936
 replace hrc47 := RCs.mono RWayR.mono hrc47 hm12936
 have le12937 := Mem.le_trans le42 hm12936
 have le12938 := hm12936
 subst hn12945
 refine c_know (t := 2) e12951 <| c_know (t := 5) e12952 <| c_know (t := 25) e12953 <| c_know (t := 26) e12954 ?_
 clear e12951 e12952 e12953 e12954
 rcases k_0 with _ | k_0
 · exact none_ne hM
 rw [mg120_l0] at hM
 refine c_seq <| c_region <| wl_h hS12950.toHeld (r_lss (a := _) (b := _) rfl rfl) <| wl_nil <| c_seq <| c_cond (c := _) rfl (fun h12955 => ?_) (fun h12955 => ?_)
 ·replace hM := bif_t h12955 hM
  refine c_skip <| c_seq <| c_block <| c_seq <| c_region <| wl_h hS12950.toHeld (r_fieldAddr fld41_1 (b := _) (o := _) rfl) ?_
  refine wl_h hS12950.toHeld (r_box ty39 (k := 1) (.there .here) rfl rfl rfl (v := .slice _ _ _) rfl) <| wl_h hS12950.toHeld (r_len Tryz.underlying39 (a := _) (n := _) (c := _) rfl) <| wl_h hS12950.toHeld (r_move (v := .int .i64 _) rfl) <| wl_nil <| c_block <| c_loop (fun k f w => ∃ (x17393 : Int) (l17394 : List WayR) (m17388 : Mem) (a17395 : Option Addr) (n17396 : Nat) (c17397 : Nat) (cs17398 : List Value), mg120_l1 fuel r3 x12939 (mg120_l0 fuel r3 k_0) k x17393 l17394 = some r ∧ m12935 ≤ m17388 ∧ n17396 = l17394.length ∧ RCs 2 RWayR m17388 cs17398 l17394 ∧ St w m17388 (.row (.slice a17395 n17396 c17397) 190 2 cs17398 :: .box b10 41 [.int .i64 r3.corners, .slice a4 r3.streets.length c6] :: L) ∧ f 2 = .pointer (some ⟨b10, 0, none⟩) ∧ f 5 = .slice a17395 n17396 c17397 ∧ f 25 = .int .i64 r3.corners ∧ f 26 = .int .i64 x12939 ∧ f 29 = .slice a4 r3.streets.length c6 ∧ f 30 = .int .i64 ((r3.streets.length : Nat) : Int) ∧ f 31 = .int .i64 x17393) fuel ⟨0, l12940, m12935, a12941, l12940.length, c12943, cs12944, hM, Mem.le_refl _, row_n (hS12950.toHeld.own .here) hrc12946 (by decide), hrc12946, hS12950, rfl, rfl, rfl, rfl, rfl, rfl, rfl⟩ ?_
  rintro k_1 f17401 w17402 ⟨x17393, l17394, m17388, a17395, n17396, c17397, cs17398, hM, hm17389, hn17399, hrc17400, hS17404, e17405, e17406, e17407, e17408, e17409, e17410, e17411⟩
  replace hk8 := RRound.mono _ _ _ _ hk8 hm17389
  replace hr7 := RSl.mono RStreet.mono hr7 hm17389
  replace hrc18 := RCs.mono RWayR.mono hrc18 hm17389
  replace hrc24 := RCs.mono RInt.mono hrc24 hm17389
  replace hk36 := RWayR.mono _ _ _ _ hk36 hm17389
  replace hr35 := ROp.mono RInt.mono hr35 hm17389
  replace hr40 := RSl.mono RInt.mono hr40 hm17389
  replace ho45 := ROp.mono RInt.mono ho45 hm17389
  replace hrc47 := RCs.mono RWayR.mono hrc47 hm17389
  replace hrc12946 := RCs.mono RWayR.mono hrc12946 hm17389
  have le17390 := Mem.le_trans le12937 hm17389
  have le17391 := Mem.le_trans le12938 hm17389
  have le17392 := hm17389
  subst hn17399
  refine c_know (t := 2) e17405 <| c_know (t := 5) e17406 <| c_know (t := 25) e17407 <| c_know (t := 26) e17408 <| c_know (t := 29) e17409 ?_
  refine c_know (t := 30) e17410 <| c_know (t := 31) e17411 ?_
  clear e17405 e17406 e17407 e17408 e17409 e17410 e17411
  rcases k_1 with _ | k_1
  · exact none_ne hM
  rw [mg120_l1] at hM
  refine c_seq <| c_region <| wl_h hS17404.toHeld (r_lss (a := _) (b := _) rfl rfl) <| wl_nil <| c_seq <| c_cond (c := _) rfl (fun h17412 => ?_) (fun h17412 => ?_)
  ·replace hM := bif_t h17412 hM
   refine c_skip <| c_seq <| c_block <| c_seq <| c_region <| wl_h hS17404.toHeld (r_move (v := .int .i64 _) rfl) ?_
   obtain ⟨x17413, hx17414, h17415, h17416, hM⟩ := getK_ok hM
   obtain ⟨b17417, o17418, rfl⟩ := RSl.elem_a hr7 hx17414
   obtain ⟨cs17419, hI17420, hR17421⟩ := RSl.elem_at hr7 hx17414
   obtain rfl := hR17421
   refine wl_h hS17404.toHeld (r_indexAddr Tryz.underlying39 ty47 (b := _) (o := _) (n := _) (c := _) (i := x17393) rfl rfl h17415 (RSl.lt hr7 h17416)) <| wl_h hS17404.toHeld (r_imm ty47 (k := 0) hI17420 rfl rfl rfl (v := .agg #[.int .i64 _, .int .i64 _, .int .i64 _]) rfl) <| wl_alloc ty47 rfl hS17404 ?_
   intro b17422 w17423 hS17424
   refine wl_h hS17424.toHeld (r_assign (v := .int .i64 _) rfl) <| wl_store_box ty47 hS17424 rfl (v := .agg #[.int .i64 _, .int .i64 _, .int .i64 _]) rfl (vs := [.int .i64 _, .int .i64 _, .int .i64 _]) rfl rfl rfl .here (cs' := [.int .i64 _, .int .i64 _, .int .i64 _]) rfl rfl ?_
   intro w17425 hS17426
   refine wl_nil <| c_seq <| c_region <| wl_h hS17426.toHeld (r_fieldAddr fld47_0 (b := _) (o := _) rfl) <| wl_h hS17426.toHeld (r_box ty3 (k := 0) .here rfl rfl rfl (v := .int .i64 _) rfl) ?_
   refine wl_h hS17426.toHeld (r_fieldAddr fld47_1 (b := _) (o := _) rfl) <| wl_h hS17426.toHeld (r_box ty3 (k := 1) .here rfl rfl rfl (v := .int .i64 _) rfl) <| wl_h hS17426.toHeld (r_buildA Tryz.underlying49 ty49 ty3 (ps := [(0, [.int .i64 _]), (1, [.int .i64 _])]) rfl rfl (cs := [.int .i64 _, .int .i64 _]) rfl) <| wl_h hS17426.toHeld (r_fieldAddr fld47_1 (b := _) (o := _) rfl) <| wl_h hS17426.toHeld (r_box ty3 (k := 1) .here rfl rfl rfl (v := .int .i64 _) rfl) ?_
   refine wl_h hS17426.toHeld (r_fieldAddr fld47_0 (b := _) (o := _) rfl) <| wl_h hS17426.toHeld (r_box ty3 (k := 0) .here rfl rfl rfl (v := .int .i64 _) rfl) <| wl_h hS17426.toHeld (r_buildA Tryz.underlying49 ty49 ty3 (ps := [(0, [.int .i64 _]), (1, [.int .i64 _])]) rfl rfl (cs := [.int .i64 _, .int .i64 _]) rfl) <| wl_h hS17426.toHeld (r_buildA Tryz.underlying204 ty204 ty49 (ps := [(0, [.int .i64 _, .int .i64 _]), (1, [.int .i64 _, .int .i64 _])]) rfl rfl (cs := [.int .i64 _, .int .i64 _, .int .i64 _, .int .i64 _]) rfl) <| wl_h hS17426.toHeld (r_move (v := .int .i64 _) rfl) ?_
   refine wl_nil <| c_block <| c_loop (fun k f w => ∃ (x18882 : Int) (l18883 : List WayR) (m18876 : Mem) (a18884 : Option Addr) (n18885 : Nat) (c18886 : Nat) (cs18887 : List Value), mg120_l2 fuel x17393 x17413 (mg120_l1 fuel r3 x12939 (mg120_l0 fuel r3 k_0) k_1) k x18882 l18883 = some r ∧ m17388 ≤ m18876 ∧ n18885 = l18883.length ∧ RCs 2 RWayR m18876 cs18887 l18883 ∧ St w m18876 (.box b17422 47 [.int .i64 x17413.a, .int .i64 x17413.b, .int .i64 x17413.length] :: .row (.slice a18884 n18885 c18886) 190 2 cs18887 :: .box b10 41 [.int .i64 r3.corners, .slice (some ⟨b17417, o17418, none⟩) r3.streets.length c6] :: L) ∧ f 2 = .pointer (some ⟨b10, 0, none⟩) ∧ f 5 = .slice a18884 n18885 c18886 ∧ f 6 = .int .i64 x17393 ∧ f 7 = .pointer (some ⟨b17422, 0, none⟩) ∧ f 25 = .int .i64 r3.corners ∧ f 26 = .int .i64 x12939 ∧ f 29 = .slice (some ⟨b17417, o17418, none⟩) r3.streets.length c6 ∧ f 30 = .int .i64 ((r3.streets.length : Nat) : Int) ∧ f 31 = .int .i64 x17393 ∧ f 46 = .agg #[.int .i64 x17413.a, .int .i64 x17413.b, .int .i64 x17413.b, .int .i64 x17413.a] ∧ f 47 = .int .i64 x18882) fuel ⟨0, l17394, m17388, a17395, l17394.length, c17397, cs17398, hM, Mem.le_refl _, row_n (hS17426.toHeld.own (.there .here)) hrc17400 (by decide), hrc17400, hS17426, rfl, rfl, rfl, rfl, rfl, rfl, rfl, rfl, rfl, rfl, rfl⟩ ?_
   rintro k_2 f18890 w18891 ⟨x18882, l18883, m18876, a18884, n18885, c18886, cs18887, hM, hm18877, hn18888, hrc18889, hS18893, e18894, e18895, e18896, e18897, e18898, e18899, e18900, e18901, e18902, e18903, e18904⟩
   replace hk8 := RRound.mono _ _ _ _ hk8 hm18877
   replace hr7 := RSl.mono RStreet.mono hr7 hm18877
   replace hrc18 := RCs.mono RWayR.mono hrc18 hm18877
   replace hrc24 := RCs.mono RInt.mono hrc24 hm18877
   replace hk36 := RWayR.mono _ _ _ _ hk36 hm18877
   replace hr35 := ROp.mono RInt.mono hr35 hm18877
   replace hr40 := RSl.mono RInt.mono hr40 hm18877
   replace ho45 := ROp.mono RInt.mono ho45 hm18877
   replace hrc47 := RCs.mono RWayR.mono hrc47 hm18877
   replace hrc12946 := RCs.mono RWayR.mono hrc12946 hm18877
   replace hrc17400 := RCs.mono RWayR.mono hrc17400 hm18877
   replace hI17420 := Imm.mono hI17420 hm18877
   have le18878 := Mem.le_trans le17390 hm18877
   have le18879 := Mem.le_trans le17391 hm18877
   have le18880 := Mem.le_trans le17392 hm18877
   have le18881 := hm18877
   subst hn18888
   refine c_know (t := 2) e18894 <| c_know (t := 5) e18895 <| c_know (t := 6) e18896 <| c_know (t := 7) e18897 <| c_know (t := 25) e18898 ?_
   refine c_know (t := 26) e18899 <| c_know (t := 29) e18900 <| c_know (t := 30) e18901 <| c_know (t := 31) e18902 <| c_know (t := 46) e18903 ?_
   refine c_know (t := 47) e18904 ?_
   clear e18894 e18895 e18896 e18897 e18898 e18899 e18900 e18901 e18902 e18903 e18904
   rcases k_2 with _ | k_2
   · exact none_ne hM
   rw [mg120_l2] at hM
   refine c_seq <| c_region <| wl_h hS18893.toHeld (r_lss (a := _) (b := _) rfl rfl) <| wl_nil <| c_seq <| c_cond (c := _) rfl (fun h18905 => ?_) (fun h18905 => ?_)
   ·replace hM := bif_t h18905 hM
    refine c_skip <| c_seq <| c_block <| c_seq <| c_region ?_
    obtain ⟨x18906, hx18907, h18908, h18909, hM⟩ := getK_ok hM
    obtain ⟨y18910, hy18911, h18912, h18913, hM⟩ := getK_ok hM
    obtain ⟨y18914, hy18915, h18916, h18917, hM⟩ := getK_ok hM
    refine wl_h hS18893.toHeld (r_indexAI Tryz.underlying204 ty49 (n := 2) (xss := [[x17413.a, x17413.b], [x17413.b, x17413.a]]) (i := x18882) (cs := [.int .i64 _, .int .i64 _, .int .i64 _, .int .i64 _]) rfl rfl h18908 h18909 rfl (y := x18906) hx18907 rfl rfl (ys := [y18910, y18914]) (get2 hy18911 hy18915) rfl) <| wl_alloc ty49 rfl hS18893 ?_
    intro b18918 w18919 hS18920
    refine wl_store_box ty49 hS18920 rfl (v := .agg #[.int .i64 _, .int .i64 _]) rfl (vs := [.int .i64 _, .int .i64 _]) rfl rfl rfl .here (cs' := [.int .i64 _, .int .i64 _]) rfl rfl ?_
    intro w18921 hS18922
    refine wl_nil <| c_seq ?_
    obtain ⟨x18966, hx18967, h18968, h18969, hM⟩ := getK_ok hM
    obtain ⟨x18979, hx18980, h18981, h18982, hM⟩ := getK_ok hM
    have hH19017 := (hS18922.weaken (.cons_cons _ (.cons_cons _ (.cons _ (.cons_cons _ (.refl _)))))).toHeld
    refine c_drawJ (k := 14) (fun f w => ∃ (a19007 : Option Addr) (n19008 : Nat) (c19009 : Nat) (b19011 : Nat) (a19012 : Option Addr) (n19013 : Nat) (c19014 : Nat) (b19016 : Nat), ROp 1 RInt m18876 a19007 n19008 c19009 x18979.along ∧ ROp 1 RInt m18876 a19012 n19013 c19014 x18966.along ∧ St w m18876 (.box b19011 190 [.int .i64 x18979.length, .slice a19007 n19008 c19009] :: .box b19016 190 [.int .i64 x18966.length, .slice a19012 n19013 c19014] :: .box b18918 49 [.int .i64 y18910, .int .i64 y18914] :: .box b17422 47 [.int .i64 x17413.a, .int .i64 x17413.b, .int .i64 x17413.length] :: .row (.slice a18884 l18883.length c18886) 190 2 cs18887 :: .box b10 41 [.int .i64 r3.corners, .slice (some ⟨b17417, o17418, none⟩) r3.streets.length c6] :: L) ∧ f 2 = .pointer (some ⟨b10, 0, none⟩) ∧ f 5 = .slice a18884 l18883.length c18886 ∧ f 6 = .int .i64 x17393 ∧ f 7 = .pointer (some ⟨b17422, 0, none⟩) ∧ f 9 = .pointer (some ⟨b18918, 0, none⟩) ∧ f 10 = .pointer (some ⟨b19016, 0, none⟩) ∧ f 11 = .pointer (some ⟨b19011, 0, none⟩) ∧ f 25 = .int .i64 r3.corners ∧ f 26 = .int .i64 x12939 ∧ f 29 = .slice (some ⟨b17417, o17418, none⟩) r3.streets.length c6 ∧ f 30 = .int .i64 ((r3.streets.length : Nat) : Int) ∧ f 31 = .int .i64 x17393 ∧ f 46 = .agg #[.int .i64 x17413.a, .int .i64 x17413.b, .int .i64 x17413.b, .int .i64 x17413.a] ∧ f 47 = .int .i64 x18882) (fun w => Held w m18876 (.box b18918 49 [.int .i64 y18910, .int .i64 y18914] :: .box b17422 47 [.int .i64 x17413.a, .int .i64 x17413.b, .int .i64 x17413.length] :: .box b10 41 [.int .i64 r3.corners, .slice (some ⟨b17417, o17418, none⟩) r3.streets.length c6] :: L)) mixed rfl ?_ ?_
    ·replace hH19017 := hH19017.drew1
     have hS19018 := hS18922.drew1
     refine d_v (i := 0) rfl (by kernel_rfl) rfl (r_move (v := .slice _ _ _) rfl) hH19017 ?_
     refine d_v (i := 1) rfl (by kernel_rfl) rfl (r_indexAddr_arr Tryz.underlying49 ty3 (n := 2) (b := _) (o := _) (i := 0) rfl rfl (by decide) (by decide)) hH19017 ?_
     refine d_v (i := 2) rfl (by kernel_rfl) rfl (r_box ty3 (k := 0) .here rfl rfl rfl (v := .int .i64 _) rfl) hH19017 ?_
     obtain ⟨b19019, rfl⟩ := row_some (hS19018.toHeld.own (.there (.there .here))) hrc18889 (by decide) h18968 h18969
     obtain ⟨es19020, hes19021, hR19022⟩ := row_read hrc18889 hx18967
     have hk19027 := hR19022
     obtain ⟨a19023, n19024, c19025, rfl, hr19026⟩ := hR19022
     obtain rfl := (ROp.rsl hr19026).1
     refine d_v (i := 3) rfl (by kernel_rfl) rfl (r_indexAddr Tryz.underlying185 ty190 (b := _) (o := _) (n := _) (c := _) (i := y18910) rfl rfl h18968 (row_lt (hS19018.toHeld.own (.there (.there .here))) hrc18889 (by decide) h18969)) hH19017 ?_
     refine d_v (i := 5) rfl (by kernel_rfl) rfl (r_move (v := .slice _ _ _) rfl) hH19017 ?_
     refine d_v (i := 6) rfl (by kernel_rfl) rfl (r_indexAddr_arr Tryz.underlying49 ty3 (n := 2) (b := _) (o := _) (i := 1) rfl rfl (by decide) (by decide)) hH19017 ?_
     refine d_v (i := 7) rfl (by kernel_rfl) rfl (r_box ty3 (k := 1) .here rfl rfl rfl (v := .int .i64 _) rfl) hH19017 ?_
     obtain ⟨es19028, hes19029, hR19030⟩ := row_read hrc18889 hx18980
     have hk19035 := hR19030
     obtain ⟨a19031, n19032, c19033, rfl, hr19034⟩ := hR19030
     obtain rfl := (ROp.rsl hr19034).1
     refine d_v (i := 8) rfl (by kernel_rfl) rfl (r_indexAddr Tryz.underlying185 ty190 (b := _) (o := _) (n := _) (c := _) (i := y18914) rfl rfl h18981 (row_lt (hS19018.toHeld.own (.there (.there .here))) hrc18889 (by decide) h18982)) hH19017 ?_
     refine d_all (rs := [4, 9, 10, 11]) (by kernel_rfl) (by simp) (fun j hj o ho => ?_)
     simp only [List.mem_cons, List.not_mem_nil, or_false] at hj
     rcases hj with rfl | rfl | rfl | rfl
     ·cases ho
      refine wl_h hS19018.toHeld (r_row ty190 (k := 0) (i := y18910.toNat) (.there (.there .here)) rfl rfl (row_room hrc18889 hx18967) hes19021 rfl (v := .agg #[.int .i64 _, .slice _ _ _]) rfl) <| wl_nil ?_
      have hH19036 := hS19018.toHeld.mono (Mem.le_refl _) (List.Sublist.subset (.cons_cons _ (.cons_cons _ (.cons _ (.cons_cons _ (.refl _))))))
      refine ⟨hH19036, ?_⟩
      refine d_all (rs := [9, 10, 11]) (by kernel_rfl) (by simp) (fun j hj o ho => ?_)
      simp only [List.mem_cons, List.not_mem_nil, or_false] at hj
      rcases hj with rfl | rfl | rfl
      ·cases ho
       refine wl_h hS19018.toHeld (r_row ty190 (k := 0) (i := y18914.toNat) (.there (.there .here)) rfl rfl (row_room hrc18889 hx18980) hes19029 rfl (v := .agg #[.int .i64 _, .slice _ _ _]) rfl) <| wl_nil ?_
       have hH19037 := hS19018.toHeld.mono (Mem.le_refl _) (List.Sublist.subset (.cons_cons _ (.cons_cons _ (.cons _ (.cons_cons _ (.refl _))))))
       refine ⟨hH19037, ?_⟩
       refine d_all (rs := [10, 11]) (by kernel_rfl) (by simp) (fun j hj o ho => ?_)
       simp only [List.mem_cons, List.not_mem_nil, or_false] at hj
       rcases hj with rfl | rfl
       ·cases ho
        refine wl_alloc ty190 rfl hS19018 ?_
        intro b19038 w19039 hS19040
        refine wl_nil ?_
        have hH19041 := hS19040.toHeld.mono (Mem.le_refl _) (List.Sublist.subset (.cons _ (.cons_cons _ (.cons_cons _ (.cons _ (.cons_cons _ (.refl _)))))))
        refine ⟨hH19041, ?_⟩
        refine d_all (rs := [11]) (by kernel_rfl) (by simp) (fun j hj o ho => ?_)
        obtain rfl : j = 11 := by simpa using hj
        cases ho
        refine wl_alloc ty190 rfl hS19040 ?_
        intro b19042 w19043 hS19044
        refine wl_nil ?_
        have hH19045 := hS19044.toHeld.mono (Mem.le_refl _) (List.Sublist.subset (.cons _ (.cons _ (.cons_cons _ (.cons_cons _ (.cons _ (.cons_cons _ (.refl _))))))))
        refine ⟨hH19045, ?_⟩
        refine d_all (rs := [12]) (by kernel_rfl) (by simp) (fun j hj o ho => ?_)
        obtain rfl : j = 12 := by simpa using hj
        cases ho
        refine wl_store_box ty190 hS19044 rfl (v := .agg #[.int .i64 _, .slice _ _ _]) rfl (vs := [.int .i64 _, .slice _ _ _]) rfl rfl rfl (.there .here) (cs' := [.int .i64 _, .slice _ _ _]) rfl rfl ?_
        intro w19046 hS19047
        refine wl_nil ?_
        have hH19048 := hS19047.toHeld.mono (Mem.le_refl _) (List.Sublist.subset (.cons _ (.cons _ (.cons_cons _ (.cons_cons _ (.cons _ (.cons_cons _ (.refl _))))))))
        refine ⟨hH19048, ?_⟩
        refine d_all (rs := [13]) (by kernel_rfl) (by simp) (fun j hj o ho => ?_)
        obtain rfl : j = 13 := by simpa using hj
        cases ho
        refine wl_store_box ty190 hS19047 rfl (v := .agg #[.int .i64 _, .slice _ _ _]) rfl (vs := [.int .i64 _, .slice _ _ _]) rfl rfl rfl .here (cs' := [.int .i64 _, .slice _ _ _]) rfl rfl ?_
        intro w19049 hS19050
        refine wl_nil ?_
        have hH19051 := hS19050.toHeld.mono (Mem.le_refl _) (List.Sublist.subset (.cons _ (.cons _ (.cons_cons _ (.cons_cons _ (.cons _ (.cons_cons _ (.refl _))))))))
        refine ⟨hH19051, ?_⟩
        refine d_end (by kernel_rfl) ?_
        exact ⟨_, _, _, _, _, _, _, _, hr19034, hr19026, hS19050, rfl, rfl, rfl, rfl, rfl, rfl, rfl, rfl, rfl, rfl, rfl, rfl, rfl, rfl⟩
       ·cases ho
        refine wl_alloc ty190 rfl hS19018 ?_
        intro b19052 w19053 hS19054
        refine wl_nil ?_
        have hH19055 := hS19054.toHeld.mono (Mem.le_refl _) (List.Sublist.subset (.cons _ (.cons_cons _ (.cons_cons _ (.cons _ (.cons_cons _ (.refl _)))))))
        refine ⟨hH19055, ?_⟩
        refine d_all (rs := [10]) (by kernel_rfl) (by simp) (fun j hj o ho => ?_)
        obtain rfl : j = 10 := by simpa using hj
        cases ho
        refine wl_alloc ty190 rfl hS19054 ?_
        intro b19056 w19057 hS19058
        refine wl_nil ?_
        have hH19059 := hS19058.toHeld.mono (Mem.le_refl _) (List.Sublist.subset (.cons _ (.cons _ (.cons_cons _ (.cons_cons _ (.cons _ (.cons_cons _ (.refl _))))))))
        refine ⟨hH19059, ?_⟩
        refine d_all (rs := [12]) (by kernel_rfl) (by simp) (fun j hj o ho => ?_)
        obtain rfl : j = 12 := by simpa using hj
        cases ho
        refine wl_store_box ty190 hS19058 rfl (v := .agg #[.int .i64 _, .slice _ _ _]) rfl (vs := [.int .i64 _, .slice _ _ _]) rfl rfl rfl .here (cs' := [.int .i64 _, .slice _ _ _]) rfl rfl ?_
        intro w19060 hS19061
        refine wl_nil ?_
        have hH19062 := hS19061.toHeld.mono (Mem.le_refl _) (List.Sublist.subset (.cons _ (.cons _ (.cons_cons _ (.cons_cons _ (.cons _ (.cons_cons _ (.refl _))))))))
        refine ⟨hH19062, ?_⟩
        refine d_all (rs := [13]) (by kernel_rfl) (by simp) (fun j hj o ho => ?_)
        obtain rfl : j = 13 := by simpa using hj
        cases ho
        refine wl_store_box ty190 hS19061 rfl (v := .agg #[.int .i64 _, .slice _ _ _]) rfl (vs := [.int .i64 _, .slice _ _ _]) rfl rfl rfl (.there .here) (cs' := [.int .i64 _, .slice _ _ _]) rfl rfl ?_
        intro w19063 hS19064
        refine wl_nil ?_
        have hH19065 := hS19064.toHeld.mono (Mem.le_refl _) (List.Sublist.subset (.cons _ (.cons _ (.cons_cons _ (.cons_cons _ (.cons _ (.cons_cons _ (.refl _))))))))
        refine ⟨hH19065, ?_⟩
        refine d_end (by kernel_rfl) ?_
        have hS19066 := hS19064.front (.there (.there (.there (.there (.there .here)))))
        have hS19067 := hS19066.front (.there (.there (.there (.there (.there .here)))))
        have hS19068 := hS19067.front (.there (.there (.there (.there (.there .here)))))
        have hS19069 := hS19068.front (.there (.there (.there (.there (.there .here)))))
        have hS19070 := hS19069.front (.there (.there (.there (.there .here))))
        have hS19071 := hS19070.front (.there (.there (.there (.there (.there .here)))))
        exact ⟨_, _, _, _, _, _, _, _, hr19034, hr19026, hS19071, rfl, rfl, rfl, rfl, rfl, rfl, rfl, rfl, rfl, rfl, rfl, rfl, rfl, rfl⟩
      ·cases ho
       refine wl_alloc ty190 rfl hS19018 ?_
       intro b19072 w19073 hS19074
       refine wl_nil ?_
       have hH19075 := hS19074.toHeld.mono (Mem.le_refl _) (List.Sublist.subset (.cons _ (.cons_cons _ (.cons_cons _ (.cons _ (.cons_cons _ (.refl _)))))))
       refine ⟨hH19075, ?_⟩
       refine d_all (rs := [9, 11]) (by kernel_rfl) (by simp) (fun j hj o ho => ?_)
       simp only [List.mem_cons, List.not_mem_nil, or_false] at hj
       rcases hj with rfl | rfl
       ·cases ho
        refine wl_h hS19074.toHeld (r_row ty190 (k := 0) (i := y18914.toNat) (.there (.there (.there .here))) rfl rfl (row_room hrc18889 hx18980) hes19029 rfl (v := .agg #[.int .i64 _, .slice _ _ _]) rfl) <| wl_nil ?_
        have hH19076 := hS19074.toHeld.mono (Mem.le_refl _) (List.Sublist.subset (.cons _ (.cons_cons _ (.cons_cons _ (.cons _ (.cons_cons _ (.refl _)))))))
        refine ⟨hH19076, ?_⟩
        refine d_all (rs := [11]) (by kernel_rfl) (by simp) (fun j hj o ho => ?_)
        obtain rfl : j = 11 := by simpa using hj
        cases ho
        refine wl_alloc ty190 rfl hS19074 ?_
        intro b19077 w19078 hS19079
        refine wl_nil ?_
        have hH19080 := hS19079.toHeld.mono (Mem.le_refl _) (List.Sublist.subset (.cons _ (.cons _ (.cons_cons _ (.cons_cons _ (.cons _ (.cons_cons _ (.refl _))))))))
        refine ⟨hH19080, ?_⟩
        refine d_all (rs := [12]) (by kernel_rfl) (by simp) (fun j hj o ho => ?_)
        obtain rfl : j = 12 := by simpa using hj
        cases ho
        refine wl_store_box ty190 hS19079 rfl (v := .agg #[.int .i64 _, .slice _ _ _]) rfl (vs := [.int .i64 _, .slice _ _ _]) rfl rfl rfl (.there .here) (cs' := [.int .i64 _, .slice _ _ _]) rfl rfl ?_
        intro w19081 hS19082
        refine wl_nil ?_
        have hH19083 := hS19082.toHeld.mono (Mem.le_refl _) (List.Sublist.subset (.cons _ (.cons _ (.cons_cons _ (.cons_cons _ (.cons _ (.cons_cons _ (.refl _))))))))
        refine ⟨hH19083, ?_⟩
        refine d_all (rs := [13]) (by kernel_rfl) (by simp) (fun j hj o ho => ?_)
        obtain rfl : j = 13 := by simpa using hj
        cases ho
        refine wl_store_box ty190 hS19082 rfl (v := .agg #[.int .i64 _, .slice _ _ _]) rfl (vs := [.int .i64 _, .slice _ _ _]) rfl rfl rfl .here (cs' := [.int .i64 _, .slice _ _ _]) rfl rfl ?_
        intro w19084 hS19085
        refine wl_nil ?_
        have hH19086 := hS19085.toHeld.mono (Mem.le_refl _) (List.Sublist.subset (.cons _ (.cons _ (.cons_cons _ (.cons_cons _ (.cons _ (.cons_cons _ (.refl _))))))))
        refine ⟨hH19086, ?_⟩
        refine d_end (by kernel_rfl) ?_
        exact ⟨_, _, _, _, _, _, _, _, hr19034, hr19026, hS19085, rfl, rfl, rfl, rfl, rfl, rfl, rfl, rfl, rfl, rfl, rfl, rfl, rfl, rfl⟩
       ·cases ho
        refine wl_alloc ty190 rfl hS19074 ?_
        intro b19087 w19088 hS19089
        refine wl_nil ?_
        have hH19090 := hS19089.toHeld.mono (Mem.le_refl _) (List.Sublist.subset (.cons _ (.cons _ (.cons_cons _ (.cons_cons _ (.cons _ (.cons_cons _ (.refl _))))))))
        refine ⟨hH19090, ?_⟩
        refine d_all (rs := [9, 12]) (by kernel_rfl) (by simp) (fun j hj o ho => ?_)
        simp only [List.mem_cons, List.not_mem_nil, or_false] at hj
        rcases hj with rfl | rfl
        ·cases ho
         refine wl_h hS19089.toHeld (r_row ty190 (k := 0) (i := y18914.toNat) (.there (.there (.there (.there .here)))) rfl rfl (row_room hrc18889 hx18980) hes19029 rfl (v := .agg #[.int .i64 _, .slice _ _ _]) rfl) <| wl_nil ?_
         have hH19091 := hS19089.toHeld.mono (Mem.le_refl _) (List.Sublist.subset (.cons _ (.cons _ (.cons_cons _ (.cons_cons _ (.cons _ (.cons_cons _ (.refl _))))))))
         refine ⟨hH19091, ?_⟩
         refine d_all (rs := [12]) (by kernel_rfl) (by simp) (fun j hj o ho => ?_)
         obtain rfl : j = 12 := by simpa using hj
         cases ho
         refine wl_store_box ty190 hS19089 rfl (v := .agg #[.int .i64 _, .slice _ _ _]) rfl (vs := [.int .i64 _, .slice _ _ _]) rfl rfl rfl (.there .here) (cs' := [.int .i64 _, .slice _ _ _]) rfl rfl ?_
         intro w19092 hS19093
         refine wl_nil ?_
         have hH19094 := hS19093.toHeld.mono (Mem.le_refl _) (List.Sublist.subset (.cons _ (.cons _ (.cons_cons _ (.cons_cons _ (.cons _ (.cons_cons _ (.refl _))))))))
         refine ⟨hH19094, ?_⟩
         refine d_all (rs := [13]) (by kernel_rfl) (by simp) (fun j hj o ho => ?_)
         obtain rfl : j = 13 := by simpa using hj
         cases ho
         refine wl_store_box ty190 hS19093 rfl (v := .agg #[.int .i64 _, .slice _ _ _]) rfl (vs := [.int .i64 _, .slice _ _ _]) rfl rfl rfl .here (cs' := [.int .i64 _, .slice _ _ _]) rfl rfl ?_
         intro w19095 hS19096
         refine wl_nil ?_
         have hH19097 := hS19096.toHeld.mono (Mem.le_refl _) (List.Sublist.subset (.cons _ (.cons _ (.cons_cons _ (.cons_cons _ (.cons _ (.cons_cons _ (.refl _))))))))
         refine ⟨hH19097, ?_⟩
         refine d_end (by kernel_rfl) ?_
         exact ⟨_, _, _, _, _, _, _, _, hr19034, hr19026, hS19096, rfl, rfl, rfl, rfl, rfl, rfl, rfl, rfl, rfl, rfl, rfl, rfl, rfl, rfl⟩
        ·cases ho
         refine wl_store_box ty190 hS19089 rfl (v := .agg #[.int .i64 _, .slice _ _ _]) rfl (vs := [.int .i64 _, .slice _ _ _]) rfl rfl rfl (.there .here) (cs' := [.int .i64 _, .slice _ _ _]) rfl rfl ?_
         intro w19098 hS19099
         refine wl_nil ?_
         have hH19100 := hS19099.toHeld.mono (Mem.le_refl _) (List.Sublist.subset (.cons _ (.cons _ (.cons_cons _ (.cons_cons _ (.cons _ (.cons_cons _ (.refl _))))))))
         refine ⟨hH19100, ?_⟩
         refine d_all (rs := [9]) (by kernel_rfl) (by simp) (fun j hj o ho => ?_)
         obtain rfl : j = 9 := by simpa using hj
         cases ho
         refine wl_h hS19099.toHeld (r_row ty190 (k := 0) (i := y18914.toNat) (.there (.there (.there (.there .here)))) rfl rfl (row_room hrc18889 hx18980) hes19029 rfl (v := .agg #[.int .i64 _, .slice _ _ _]) rfl) <| wl_nil ?_
         have hH19101 := hS19099.toHeld.mono (Mem.le_refl _) (List.Sublist.subset (.cons _ (.cons _ (.cons_cons _ (.cons_cons _ (.cons _ (.cons_cons _ (.refl _))))))))
         refine ⟨hH19101, ?_⟩
         refine d_all (rs := [13]) (by kernel_rfl) (by simp) (fun j hj o ho => ?_)
         obtain rfl : j = 13 := by simpa using hj
         cases ho
         refine wl_store_box ty190 hS19099 rfl (v := .agg #[.int .i64 _, .slice _ _ _]) rfl (vs := [.int .i64 _, .slice _ _ _]) rfl rfl rfl .here (cs' := [.int .i64 _, .slice _ _ _]) rfl rfl ?_
         intro w19102 hS19103
         refine wl_nil ?_
         have hH19104 := hS19103.toHeld.mono (Mem.le_refl _) (List.Sublist.subset (.cons _ (.cons _ (.cons_cons _ (.cons_cons _ (.cons _ (.cons_cons _ (.refl _))))))))
         refine ⟨hH19104, ?_⟩
         refine d_end (by kernel_rfl) ?_
         exact ⟨_, _, _, _, _, _, _, _, hr19034, hr19026, hS19103, rfl, rfl, rfl, rfl, rfl, rfl, rfl, rfl, rfl, rfl, rfl, rfl, rfl, rfl⟩
      ·cases ho
       refine wl_alloc ty190 rfl hS19018 ?_
       intro b19105 w19106 hS19107
       refine wl_nil ?_
       have hH19108 := hS19107.toHeld.mono (Mem.le_refl _) (List.Sublist.subset (.cons _ (.cons_cons _ (.cons_cons _ (.cons _ (.cons_cons _ (.refl _)))))))
       refine ⟨hH19108, ?_⟩
       refine d_all (rs := [9, 10]) (by kernel_rfl) (by simp) (fun j hj o ho => ?_)
       simp only [List.mem_cons, List.not_mem_nil, or_false] at hj
       rcases hj with rfl | rfl
       ·cases ho
        refine wl_h hS19107.toHeld (r_row ty190 (k := 0) (i := y18914.toNat) (.there (.there (.there .here))) rfl rfl (row_room hrc18889 hx18980) hes19029 rfl (v := .agg #[.int .i64 _, .slice _ _ _]) rfl) <| wl_nil ?_
        have hH19109 := hS19107.toHeld.mono (Mem.le_refl _) (List.Sublist.subset (.cons _ (.cons_cons _ (.cons_cons _ (.cons _ (.cons_cons _ (.refl _)))))))
        refine ⟨hH19109, ?_⟩
        refine d_all (rs := [10]) (by kernel_rfl) (by simp) (fun j hj o ho => ?_)
        obtain rfl : j = 10 := by simpa using hj
        cases ho
        refine wl_alloc ty190 rfl hS19107 ?_
        intro b19110 w19111 hS19112
        refine wl_nil ?_
        have hH19113 := hS19112.toHeld.mono (Mem.le_refl _) (List.Sublist.subset (.cons _ (.cons _ (.cons_cons _ (.cons_cons _ (.cons _ (.cons_cons _ (.refl _))))))))
        refine ⟨hH19113, ?_⟩
        refine d_all (rs := [12]) (by kernel_rfl) (by simp) (fun j hj o ho => ?_)
        obtain rfl : j = 12 := by simpa using hj
        cases ho
        refine wl_store_box ty190 hS19112 rfl (v := .agg #[.int .i64 _, .slice _ _ _]) rfl (vs := [.int .i64 _, .slice _ _ _]) rfl rfl rfl .here (cs' := [.int .i64 _, .slice _ _ _]) rfl rfl ?_
        intro w19114 hS19115
        refine wl_nil ?_
        have hH19116 := hS19115.toHeld.mono (Mem.le_refl _) (List.Sublist.subset (.cons _ (.cons _ (.cons_cons _ (.cons_cons _ (.cons _ (.cons_cons _ (.refl _))))))))
        refine ⟨hH19116, ?_⟩
        refine d_all (rs := [13]) (by kernel_rfl) (by simp) (fun j hj o ho => ?_)
        obtain rfl : j = 13 := by simpa using hj
        cases ho
        refine wl_store_box ty190 hS19115 rfl (v := .agg #[.int .i64 _, .slice _ _ _]) rfl (vs := [.int .i64 _, .slice _ _ _]) rfl rfl rfl (.there .here) (cs' := [.int .i64 _, .slice _ _ _]) rfl rfl ?_
        intro w19117 hS19118
        refine wl_nil ?_
        have hH19119 := hS19118.toHeld.mono (Mem.le_refl _) (List.Sublist.subset (.cons _ (.cons _ (.cons_cons _ (.cons_cons _ (.cons _ (.cons_cons _ (.refl _))))))))
        refine ⟨hH19119, ?_⟩
        refine d_end (by kernel_rfl) ?_
        have hS19120 := hS19118.front (.there (.there (.there (.there (.there .here)))))
        have hS19121 := hS19120.front (.there (.there (.there (.there (.there .here)))))
        have hS19122 := hS19121.front (.there (.there (.there (.there (.there .here)))))
        have hS19123 := hS19122.front (.there (.there (.there (.there (.there .here)))))
        have hS19124 := hS19123.front (.there (.there (.there (.there .here))))
        have hS19125 := hS19124.front (.there (.there (.there (.there (.there .here)))))
        exact ⟨_, _, _, _, _, _, _, _, hr19034, hr19026, hS19125, rfl, rfl, rfl, rfl, rfl, rfl, rfl, rfl, rfl, rfl, rfl, rfl, rfl, rfl⟩
       ·cases ho
        refine wl_alloc ty190 rfl hS19107 ?_
        intro b19126 w19127 hS19128
        refine wl_nil ?_
        have hH19129 := hS19128.toHeld.mono (Mem.le_refl _) (List.Sublist.subset (.cons _ (.cons _ (.cons_cons _ (.cons_cons _ (.cons _ (.cons_cons _ (.refl _))))))))
        refine ⟨hH19129, ?_⟩
        refine d_all (rs := [9, 12]) (by kernel_rfl) (by simp) (fun j hj o ho => ?_)
        simp only [List.mem_cons, List.not_mem_nil, or_false] at hj
        rcases hj with rfl | rfl
        ·cases ho
         refine wl_h hS19128.toHeld (r_row ty190 (k := 0) (i := y18914.toNat) (.there (.there (.there (.there .here)))) rfl rfl (row_room hrc18889 hx18980) hes19029 rfl (v := .agg #[.int .i64 _, .slice _ _ _]) rfl) <| wl_nil ?_
         have hH19130 := hS19128.toHeld.mono (Mem.le_refl _) (List.Sublist.subset (.cons _ (.cons _ (.cons_cons _ (.cons_cons _ (.cons _ (.cons_cons _ (.refl _))))))))
         refine ⟨hH19130, ?_⟩
         refine d_all (rs := [12]) (by kernel_rfl) (by simp) (fun j hj o ho => ?_)
         obtain rfl : j = 12 := by simpa using hj
         cases ho
         refine wl_store_box ty190 hS19128 rfl (v := .agg #[.int .i64 _, .slice _ _ _]) rfl (vs := [.int .i64 _, .slice _ _ _]) rfl rfl rfl .here (cs' := [.int .i64 _, .slice _ _ _]) rfl rfl ?_
         intro w19131 hS19132
         refine wl_nil ?_
         have hH19133 := hS19132.toHeld.mono (Mem.le_refl _) (List.Sublist.subset (.cons _ (.cons _ (.cons_cons _ (.cons_cons _ (.cons _ (.cons_cons _ (.refl _))))))))
         refine ⟨hH19133, ?_⟩
         refine d_all (rs := [13]) (by kernel_rfl) (by simp) (fun j hj o ho => ?_)
         obtain rfl : j = 13 := by simpa using hj
         cases ho
         refine wl_store_box ty190 hS19132 rfl (v := .agg #[.int .i64 _, .slice _ _ _]) rfl (vs := [.int .i64 _, .slice _ _ _]) rfl rfl rfl (.there .here) (cs' := [.int .i64 _, .slice _ _ _]) rfl rfl ?_
         intro w19134 hS19135
         refine wl_nil ?_
         have hH19136 := hS19135.toHeld.mono (Mem.le_refl _) (List.Sublist.subset (.cons _ (.cons _ (.cons_cons _ (.cons_cons _ (.cons _ (.cons_cons _ (.refl _))))))))
         refine ⟨hH19136, ?_⟩
         refine d_end (by kernel_rfl) ?_
         have hS19137 := hS19135.front (.there (.there (.there (.there (.there .here)))))
         have hS19138 := hS19137.front (.there (.there (.there (.there (.there .here)))))
         have hS19139 := hS19138.front (.there (.there (.there (.there (.there .here)))))
         have hS19140 := hS19139.front (.there (.there (.there (.there (.there .here)))))
         have hS19141 := hS19140.front (.there (.there (.there (.there .here))))
         have hS19142 := hS19141.front (.there (.there (.there (.there (.there .here)))))
         exact ⟨_, _, _, _, _, _, _, _, hr19034, hr19026, hS19142, rfl, rfl, rfl, rfl, rfl, rfl, rfl, rfl, rfl, rfl, rfl, rfl, rfl, rfl⟩
        ·cases ho
         refine wl_store_box ty190 hS19128 rfl (v := .agg #[.int .i64 _, .slice _ _ _]) rfl (vs := [.int .i64 _, .slice _ _ _]) rfl rfl rfl .here (cs' := [.int .i64 _, .slice _ _ _]) rfl rfl ?_
         intro w19143 hS19144
         refine wl_nil ?_
         have hH19145 := hS19144.toHeld.mono (Mem.le_refl _) (List.Sublist.subset (.cons _ (.cons _ (.cons_cons _ (.cons_cons _ (.cons _ (.cons_cons _ (.refl _))))))))
         refine ⟨hH19145, ?_⟩
         refine d_all (rs := [9]) (by kernel_rfl) (by simp) (fun j hj o ho => ?_)
         obtain rfl : j = 9 := by simpa using hj
         cases ho
         refine wl_h hS19144.toHeld (r_row ty190 (k := 0) (i := y18914.toNat) (.there (.there (.there (.there .here)))) rfl rfl (row_room hrc18889 hx18980) hes19029 rfl (v := .agg #[.int .i64 _, .slice _ _ _]) rfl) <| wl_nil ?_
         have hH19146 := hS19144.toHeld.mono (Mem.le_refl _) (List.Sublist.subset (.cons _ (.cons _ (.cons_cons _ (.cons_cons _ (.cons _ (.cons_cons _ (.refl _))))))))
         refine ⟨hH19146, ?_⟩
         refine d_all (rs := [13]) (by kernel_rfl) (by simp) (fun j hj o ho => ?_)
         obtain rfl : j = 13 := by simpa using hj
         cases ho
         refine wl_store_box ty190 hS19144 rfl (v := .agg #[.int .i64 _, .slice _ _ _]) rfl (vs := [.int .i64 _, .slice _ _ _]) rfl rfl rfl (.there .here) (cs' := [.int .i64 _, .slice _ _ _]) rfl rfl ?_
         intro w19147 hS19148
         refine wl_nil ?_
         have hH19149 := hS19148.toHeld.mono (Mem.le_refl _) (List.Sublist.subset (.cons _ (.cons _ (.cons_cons _ (.cons_cons _ (.cons _ (.cons_cons _ (.refl _))))))))
         refine ⟨hH19149, ?_⟩
         refine d_end (by kernel_rfl) ?_
         have hS19150 := hS19148.front (.there (.there (.there (.there (.there .here)))))
         have hS19151 := hS19150.front (.there (.there (.there (.there (.there .here)))))
         have hS19152 := hS19151.front (.there (.there (.there (.there (.there .here)))))
         have hS19153 := hS19152.front (.there (.there (.there (.there (.there .here)))))
         have hS19154 := hS19153.front (.there (.there (.there (.there .here))))
         have hS19155 := hS19154.front (.there (.there (.there (.there (.there .here)))))
         exact ⟨_, _, _, _, _, _, _, _, hr19034, hr19026, hS19155, rfl, rfl, rfl, rfl, rfl, rfl, rfl, rfl, rfl, rfl, rfl, rfl, rfl, rfl⟩
     ·cases ho
      refine wl_h hS19018.toHeld (r_row ty190 (k := 0) (i := y18914.toNat) (.there (.there .here)) rfl rfl (row_room hrc18889 hx18980) hes19029 rfl (v := .agg #[.int .i64 _, .slice _ _ _]) rfl) <| wl_nil ?_
      have hH19156 := hS19018.toHeld.mono (Mem.le_refl _) (List.Sublist.subset (.cons_cons _ (.cons_cons _ (.cons _ (.cons_cons _ (.refl _))))))
      refine ⟨hH19156, ?_⟩
      refine d_all (rs := [4, 10, 11]) (by kernel_rfl) (by simp) (fun j hj o ho => ?_)
      simp only [List.mem_cons, List.not_mem_nil, or_false] at hj
      rcases hj with rfl | rfl | rfl
      ·cases ho
       refine wl_h hS19018.toHeld (r_row ty190 (k := 0) (i := y18910.toNat) (.there (.there .here)) rfl rfl (row_room hrc18889 hx18967) hes19021 rfl (v := .agg #[.int .i64 _, .slice _ _ _]) rfl) <| wl_nil ?_
       have hH19157 := hS19018.toHeld.mono (Mem.le_refl _) (List.Sublist.subset (.cons_cons _ (.cons_cons _ (.cons _ (.cons_cons _ (.refl _))))))
       refine ⟨hH19157, ?_⟩
       refine d_all (rs := [10, 11]) (by kernel_rfl) (by simp) (fun j hj o ho => ?_)
       simp only [List.mem_cons, List.not_mem_nil, or_false] at hj
       rcases hj with rfl | rfl
       ·cases ho
        refine wl_alloc ty190 rfl hS19018 ?_
        intro b19158 w19159 hS19160
        refine wl_nil ?_
        have hH19161 := hS19160.toHeld.mono (Mem.le_refl _) (List.Sublist.subset (.cons _ (.cons_cons _ (.cons_cons _ (.cons _ (.cons_cons _ (.refl _)))))))
        refine ⟨hH19161, ?_⟩
        refine d_all (rs := [11]) (by kernel_rfl) (by simp) (fun j hj o ho => ?_)
        obtain rfl : j = 11 := by simpa using hj
        cases ho
        refine wl_alloc ty190 rfl hS19160 ?_
        intro b19162 w19163 hS19164
        refine wl_nil ?_
        have hH19165 := hS19164.toHeld.mono (Mem.le_refl _) (List.Sublist.subset (.cons _ (.cons _ (.cons_cons _ (.cons_cons _ (.cons _ (.cons_cons _ (.refl _))))))))
        refine ⟨hH19165, ?_⟩
        refine d_all (rs := [12]) (by kernel_rfl) (by simp) (fun j hj o ho => ?_)
        obtain rfl : j = 12 := by simpa using hj
        cases ho
        refine wl_store_box ty190 hS19164 rfl (v := .agg #[.int .i64 _, .slice _ _ _]) rfl (vs := [.int .i64 _, .slice _ _ _]) rfl rfl rfl (.there .here) (cs' := [.int .i64 _, .slice _ _ _]) rfl rfl ?_
        intro w19166 hS19167
        refine wl_nil ?_
        have hH19168 := hS19167.toHeld.mono (Mem.le_refl _) (List.Sublist.subset (.cons _ (.cons _ (.cons_cons _ (.cons_cons _ (.cons _ (.cons_cons _ (.refl _))))))))
        refine ⟨hH19168, ?_⟩
        refine d_all (rs := [13]) (by kernel_rfl) (by simp) (fun j hj o ho => ?_)
        obtain rfl : j = 13 := by simpa using hj
        cases ho
        refine wl_store_box ty190 hS19167 rfl (v := .agg #[.int .i64 _, .slice _ _ _]) rfl (vs := [.int .i64 _, .slice _ _ _]) rfl rfl rfl .here (cs' := [.int .i64 _, .slice _ _ _]) rfl rfl ?_
        intro w19169 hS19170
        refine wl_nil ?_
        have hH19171 := hS19170.toHeld.mono (Mem.le_refl _) (List.Sublist.subset (.cons _ (.cons _ (.cons_cons _ (.cons_cons _ (.cons _ (.cons_cons _ (.refl _))))))))
        refine ⟨hH19171, ?_⟩
        refine d_end (by kernel_rfl) ?_
        exact ⟨_, _, _, _, _, _, _, _, hr19034, hr19026, hS19170, rfl, rfl, rfl, rfl, rfl, rfl, rfl, rfl, rfl, rfl, rfl, rfl, rfl, rfl⟩
       ·cases ho
        refine wl_alloc ty190 rfl hS19018 ?_
        intro b19172 w19173 hS19174
        refine wl_nil ?_
        have hH19175 := hS19174.toHeld.mono (Mem.le_refl _) (List.Sublist.subset (.cons _ (.cons_cons _ (.cons_cons _ (.cons _ (.cons_cons _ (.refl _)))))))
        refine ⟨hH19175, ?_⟩
        refine d_all (rs := [10]) (by kernel_rfl) (by simp) (fun j hj o ho => ?_)
        obtain rfl : j = 10 := by simpa using hj
        cases ho
        refine wl_alloc ty190 rfl hS19174 ?_
        intro b19176 w19177 hS19178
        refine wl_nil ?_
        have hH19179 := hS19178.toHeld.mono (Mem.le_refl _) (List.Sublist.subset (.cons _ (.cons _ (.cons_cons _ (.cons_cons _ (.cons _ (.cons_cons _ (.refl _))))))))
        refine ⟨hH19179, ?_⟩
        refine d_all (rs := [12]) (by kernel_rfl) (by simp) (fun j hj o ho => ?_)
        obtain rfl : j = 12 := by simpa using hj
        cases ho
        refine wl_store_box ty190 hS19178 rfl (v := .agg #[.int .i64 _, .slice _ _ _]) rfl (vs := [.int .i64 _, .slice _ _ _]) rfl rfl rfl .here (cs' := [.int .i64 _, .slice _ _ _]) rfl rfl ?_
        intro w19180 hS19181
        refine wl_nil ?_
        have hH19182 := hS19181.toHeld.mono (Mem.le_refl _) (List.Sublist.subset (.cons _ (.cons _ (.cons_cons _ (.cons_cons _ (.cons _ (.cons_cons _ (.refl _))))))))
        refine ⟨hH19182, ?_⟩
        refine d_all (rs := [13]) (by kernel_rfl) (by simp) (fun j hj o ho => ?_)
        obtain rfl : j = 13 := by simpa using hj
        cases ho
        refine wl_store_box ty190 hS19181 rfl (v := .agg #[.int .i64 _, .slice _ _ _]) rfl (vs := [.int .i64 _, .slice _ _ _]) rfl rfl rfl (.there .here) (cs' := [.int .i64 _, .slice _ _ _]) rfl rfl ?_
        intro w19183 hS19184
        refine wl_nil ?_
        have hH19185 := hS19184.toHeld.mono (Mem.le_refl _) (List.Sublist.subset (.cons _ (.cons _ (.cons_cons _ (.cons_cons _ (.cons _ (.cons_cons _ (.refl _))))))))
        refine ⟨hH19185, ?_⟩
        refine d_end (by kernel_rfl) ?_
        have hS19186 := hS19184.front (.there (.there (.there (.there (.there .here)))))
        have hS19187 := hS19186.front (.there (.there (.there (.there (.there .here)))))
        have hS19188 := hS19187.front (.there (.there (.there (.there (.there .here)))))
        have hS19189 := hS19188.front (.there (.there (.there (.there (.there .here)))))
        have hS19190 := hS19189.front (.there (.there (.there (.there .here))))
        have hS19191 := hS19190.front (.there (.there (.there (.there (.there .here)))))
        exact ⟨_, _, _, _, _, _, _, _, hr19034, hr19026, hS19191, rfl, rfl, rfl, rfl, rfl, rfl, rfl, rfl, rfl, rfl, rfl, rfl, rfl, rfl⟩
      ·cases ho
       refine wl_alloc ty190 rfl hS19018 ?_
       intro b19192 w19193 hS19194
       refine wl_nil ?_
       have hH19195 := hS19194.toHeld.mono (Mem.le_refl _) (List.Sublist.subset (.cons _ (.cons_cons _ (.cons_cons _ (.cons _ (.cons_cons _ (.refl _)))))))
       refine ⟨hH19195, ?_⟩
       refine d_all (rs := [4, 11]) (by kernel_rfl) (by simp) (fun j hj o ho => ?_)
       simp only [List.mem_cons, List.not_mem_nil, or_false] at hj
       rcases hj with rfl | rfl
       ·cases ho
        refine wl_h hS19194.toHeld (r_row ty190 (k := 0) (i := y18910.toNat) (.there (.there (.there .here))) rfl rfl (row_room hrc18889 hx18967) hes19021 rfl (v := .agg #[.int .i64 _, .slice _ _ _]) rfl) <| wl_nil ?_
        have hH19196 := hS19194.toHeld.mono (Mem.le_refl _) (List.Sublist.subset (.cons _ (.cons_cons _ (.cons_cons _ (.cons _ (.cons_cons _ (.refl _)))))))
        refine ⟨hH19196, ?_⟩
        refine d_all (rs := [11]) (by kernel_rfl) (by simp) (fun j hj o ho => ?_)
        obtain rfl : j = 11 := by simpa using hj
        cases ho
        refine wl_alloc ty190 rfl hS19194 ?_
        intro b19197 w19198 hS19199
        refine wl_nil ?_
        have hH19200 := hS19199.toHeld.mono (Mem.le_refl _) (List.Sublist.subset (.cons _ (.cons _ (.cons_cons _ (.cons_cons _ (.cons _ (.cons_cons _ (.refl _))))))))
        refine ⟨hH19200, ?_⟩
        refine d_all (rs := [12]) (by kernel_rfl) (by simp) (fun j hj o ho => ?_)
        obtain rfl : j = 12 := by simpa using hj
        cases ho
        refine wl_store_box ty190 hS19199 rfl (v := .agg #[.int .i64 _, .slice _ _ _]) rfl (vs := [.int .i64 _, .slice _ _ _]) rfl rfl rfl (.there .here) (cs' := [.int .i64 _, .slice _ _ _]) rfl rfl ?_
        intro w19201 hS19202
        refine wl_nil ?_
        have hH19203 := hS19202.toHeld.mono (Mem.le_refl _) (List.Sublist.subset (.cons _ (.cons _ (.cons_cons _ (.cons_cons _ (.cons _ (.cons_cons _ (.refl _))))))))
        refine ⟨hH19203, ?_⟩
        refine d_all (rs := [13]) (by kernel_rfl) (by simp) (fun j hj o ho => ?_)
        obtain rfl : j = 13 := by simpa using hj
        cases ho
        refine wl_store_box ty190 hS19202 rfl (v := .agg #[.int .i64 _, .slice _ _ _]) rfl (vs := [.int .i64 _, .slice _ _ _]) rfl rfl rfl .here (cs' := [.int .i64 _, .slice _ _ _]) rfl rfl ?_
        intro w19204 hS19205
        refine wl_nil ?_
        have hH19206 := hS19205.toHeld.mono (Mem.le_refl _) (List.Sublist.subset (.cons _ (.cons _ (.cons_cons _ (.cons_cons _ (.cons _ (.cons_cons _ (.refl _))))))))
        refine ⟨hH19206, ?_⟩
        refine d_end (by kernel_rfl) ?_
        exact ⟨_, _, _, _, _, _, _, _, hr19034, hr19026, hS19205, rfl, rfl, rfl, rfl, rfl, rfl, rfl, rfl, rfl, rfl, rfl, rfl, rfl, rfl⟩
       ·cases ho
        refine wl_alloc ty190 rfl hS19194 ?_
        intro b19207 w19208 hS19209
        refine wl_nil ?_
        have hH19210 := hS19209.toHeld.mono (Mem.le_refl _) (List.Sublist.subset (.cons _ (.cons _ (.cons_cons _ (.cons_cons _ (.cons _ (.cons_cons _ (.refl _))))))))
        refine ⟨hH19210, ?_⟩
        refine d_all (rs := [4]) (by kernel_rfl) (by simp) (fun j hj o ho => ?_)
        obtain rfl : j = 4 := by simpa using hj
        cases ho
        refine wl_h hS19209.toHeld (r_row ty190 (k := 0) (i := y18910.toNat) (.there (.there (.there (.there .here)))) rfl rfl (row_room hrc18889 hx18967) hes19021 rfl (v := .agg #[.int .i64 _, .slice _ _ _]) rfl) <| wl_nil ?_
        have hH19211 := hS19209.toHeld.mono (Mem.le_refl _) (List.Sublist.subset (.cons _ (.cons _ (.cons_cons _ (.cons_cons _ (.cons _ (.cons_cons _ (.refl _))))))))
        refine ⟨hH19211, ?_⟩
        refine d_all (rs := [12]) (by kernel_rfl) (by simp) (fun j hj o ho => ?_)
        obtain rfl : j = 12 := by simpa using hj
        cases ho
        refine wl_store_box ty190 hS19209 rfl (v := .agg #[.int .i64 _, .slice _ _ _]) rfl (vs := [.int .i64 _, .slice _ _ _]) rfl rfl rfl (.there .here) (cs' := [.int .i64 _, .slice _ _ _]) rfl rfl ?_
        intro w19212 hS19213
        refine wl_nil ?_
        have hH19214 := hS19213.toHeld.mono (Mem.le_refl _) (List.Sublist.subset (.cons _ (.cons _ (.cons_cons _ (.cons_cons _ (.cons _ (.cons_cons _ (.refl _))))))))
        refine ⟨hH19214, ?_⟩
        refine d_all (rs := [13]) (by kernel_rfl) (by simp) (fun j hj o ho => ?_)
        obtain rfl : j = 13 := by simpa using hj
        cases ho
        refine wl_store_box ty190 hS19213 rfl (v := .agg #[.int .i64 _, .slice _ _ _]) rfl (vs := [.int .i64 _, .slice _ _ _]) rfl rfl rfl .here (cs' := [.int .i64 _, .slice _ _ _]) rfl rfl ?_
        intro w19215 hS19216
        refine wl_nil ?_
        have hH19217 := hS19216.toHeld.mono (Mem.le_refl _) (List.Sublist.subset (.cons _ (.cons _ (.cons_cons _ (.cons_cons _ (.cons _ (.cons_cons _ (.refl _))))))))
        refine ⟨hH19217, ?_⟩
        refine d_end (by kernel_rfl) ?_
        exact ⟨_, _, _, _, _, _, _, _, hr19034, hr19026, hS19216, rfl, rfl, rfl, rfl, rfl, rfl, rfl, rfl, rfl, rfl, rfl, rfl, rfl, rfl⟩
      ·cases ho
       refine wl_alloc ty190 rfl hS19018 ?_
       intro b19218 w19219 hS19220
       refine wl_nil ?_
       have hH19221 := hS19220.toHeld.mono (Mem.le_refl _) (List.Sublist.subset (.cons _ (.cons_cons _ (.cons_cons _ (.cons _ (.cons_cons _ (.refl _)))))))
       refine ⟨hH19221, ?_⟩
       refine d_all (rs := [4, 10]) (by kernel_rfl) (by simp) (fun j hj o ho => ?_)
       simp only [List.mem_cons, List.not_mem_nil, or_false] at hj
       rcases hj with rfl | rfl
       ·cases ho
        refine wl_h hS19220.toHeld (r_row ty190 (k := 0) (i := y18910.toNat) (.there (.there (.there .here))) rfl rfl (row_room hrc18889 hx18967) hes19021 rfl (v := .agg #[.int .i64 _, .slice _ _ _]) rfl) <| wl_nil ?_
        have hH19222 := hS19220.toHeld.mono (Mem.le_refl _) (List.Sublist.subset (.cons _ (.cons_cons _ (.cons_cons _ (.cons _ (.cons_cons _ (.refl _)))))))
        refine ⟨hH19222, ?_⟩
        refine d_all (rs := [10]) (by kernel_rfl) (by simp) (fun j hj o ho => ?_)
        obtain rfl : j = 10 := by simpa using hj
        cases ho
        refine wl_alloc ty190 rfl hS19220 ?_
        intro b19223 w19224 hS19225
        refine wl_nil ?_
        have hH19226 := hS19225.toHeld.mono (Mem.le_refl _) (List.Sublist.subset (.cons _ (.cons _ (.cons_cons _ (.cons_cons _ (.cons _ (.cons_cons _ (.refl _))))))))
        refine ⟨hH19226, ?_⟩
        refine d_all (rs := [12]) (by kernel_rfl) (by simp) (fun j hj o ho => ?_)
        obtain rfl : j = 12 := by simpa using hj
        cases ho
        refine wl_store_box ty190 hS19225 rfl (v := .agg #[.int .i64 _, .slice _ _ _]) rfl (vs := [.int .i64 _, .slice _ _ _]) rfl rfl rfl .here (cs' := [.int .i64 _, .slice _ _ _]) rfl rfl ?_
        intro w19227 hS19228
        refine wl_nil ?_
        have hH19229 := hS19228.toHeld.mono (Mem.le_refl _) (List.Sublist.subset (.cons _ (.cons _ (.cons_cons _ (.cons_cons _ (.cons _ (.cons_cons _ (.refl _))))))))
        refine ⟨hH19229, ?_⟩
        refine d_all (rs := [13]) (by kernel_rfl) (by simp) (fun j hj o ho => ?_)
        obtain rfl : j = 13 := by simpa using hj
        cases ho
        refine wl_store_box ty190 hS19228 rfl (v := .agg #[.int .i64 _, .slice _ _ _]) rfl (vs := [.int .i64 _, .slice _ _ _]) rfl rfl rfl (.there .here) (cs' := [.int .i64 _, .slice _ _ _]) rfl rfl ?_
        intro w19230 hS19231
        refine wl_nil ?_
        have hH19232 := hS19231.toHeld.mono (Mem.le_refl _) (List.Sublist.subset (.cons _ (.cons _ (.cons_cons _ (.cons_cons _ (.cons _ (.cons_cons _ (.refl _))))))))
        refine ⟨hH19232, ?_⟩
        refine d_end (by kernel_rfl) ?_
        have hS19233 := hS19231.front (.there (.there (.there (.there (.there .here)))))
        have hS19234 := hS19233.front (.there (.there (.there (.there (.there .here)))))
        have hS19235 := hS19234.front (.there (.there (.there (.there (.there .here)))))
        have hS19236 := hS19235.front (.there (.there (.there (.there (.there .here)))))
        have hS19237 := hS19236.front (.there (.there (.there (.there .here))))
        have hS19238 := hS19237.front (.there (.there (.there (.there (.there .here)))))
        exact ⟨_, _, _, _, _, _, _, _, hr19034, hr19026, hS19238, rfl, rfl, rfl, rfl, rfl, rfl, rfl, rfl, rfl, rfl, rfl, rfl, rfl, rfl⟩
       ·cases ho
        refine wl_alloc ty190 rfl hS19220 ?_
        intro b19239 w19240 hS19241
        refine wl_nil ?_
        have hH19242 := hS19241.toHeld.mono (Mem.le_refl _) (List.Sublist.subset (.cons _ (.cons _ (.cons_cons _ (.cons_cons _ (.cons _ (.cons_cons _ (.refl _))))))))
        refine ⟨hH19242, ?_⟩
        refine d_all (rs := [4]) (by kernel_rfl) (by simp) (fun j hj o ho => ?_)
        obtain rfl : j = 4 := by simpa using hj
        cases ho
        refine wl_h hS19241.toHeld (r_row ty190 (k := 0) (i := y18910.toNat) (.there (.there (.there (.there .here)))) rfl rfl (row_room hrc18889 hx18967) hes19021 rfl (v := .agg #[.int .i64 _, .slice _ _ _]) rfl) <| wl_nil ?_
        have hH19243 := hS19241.toHeld.mono (Mem.le_refl _) (List.Sublist.subset (.cons _ (.cons _ (.cons_cons _ (.cons_cons _ (.cons _ (.cons_cons _ (.refl _))))))))
        refine ⟨hH19243, ?_⟩
        refine d_all (rs := [12]) (by kernel_rfl) (by simp) (fun j hj o ho => ?_)
        obtain rfl : j = 12 := by simpa using hj
        cases ho
        refine wl_store_box ty190 hS19241 rfl (v := .agg #[.int .i64 _, .slice _ _ _]) rfl (vs := [.int .i64 _, .slice _ _ _]) rfl rfl rfl .here (cs' := [.int .i64 _, .slice _ _ _]) rfl rfl ?_
        intro w19244 hS19245
        refine wl_nil ?_
        have hH19246 := hS19245.toHeld.mono (Mem.le_refl _) (List.Sublist.subset (.cons _ (.cons _ (.cons_cons _ (.cons_cons _ (.cons _ (.cons_cons _ (.refl _))))))))
        refine ⟨hH19246, ?_⟩
        refine d_all (rs := [13]) (by kernel_rfl) (by simp) (fun j hj o ho => ?_)
        obtain rfl : j = 13 := by simpa using hj
        cases ho
        refine wl_store_box ty190 hS19245 rfl (v := .agg #[.int .i64 _, .slice _ _ _]) rfl (vs := [.int .i64 _, .slice _ _ _]) rfl rfl rfl (.there .here) (cs' := [.int .i64 _, .slice _ _ _]) rfl rfl ?_
        intro w19247 hS19248
        refine wl_nil ?_
        have hH19249 := hS19248.toHeld.mono (Mem.le_refl _) (List.Sublist.subset (.cons _ (.cons _ (.cons_cons _ (.cons_cons _ (.cons _ (.cons_cons _ (.refl _))))))))
        refine ⟨hH19249, ?_⟩
        refine d_end (by kernel_rfl) ?_
        have hS19250 := hS19248.front (.there (.there (.there (.there (.there .here)))))
        have hS19251 := hS19250.front (.there (.there (.there (.there (.there .here)))))
        have hS19252 := hS19251.front (.there (.there (.there (.there (.there .here)))))
        have hS19253 := hS19252.front (.there (.there (.there (.there (.there .here)))))
        have hS19254 := hS19253.front (.there (.there (.there (.there .here))))
        have hS19255 := hS19254.front (.there (.there (.there (.there (.there .here)))))
        exact ⟨_, _, _, _, _, _, _, _, hr19034, hr19026, hS19255, rfl, rfl, rfl, rfl, rfl, rfl, rfl, rfl, rfl, rfl, rfl, rfl, rfl, rfl⟩
     ·cases ho
      refine wl_alloc ty190 rfl hS19018 ?_
      intro b19256 w19257 hS19258
      refine wl_nil ?_
      have hH19259 := hS19258.toHeld.mono (Mem.le_refl _) (List.Sublist.subset (.cons _ (.cons_cons _ (.cons_cons _ (.cons _ (.cons_cons _ (.refl _)))))))
      refine ⟨hH19259, ?_⟩
      refine d_all (rs := [4, 9, 11]) (by kernel_rfl) (by simp) (fun j hj o ho => ?_)
      simp only [List.mem_cons, List.not_mem_nil, or_false] at hj
      rcases hj with rfl | rfl | rfl
      ·cases ho
       refine wl_h hS19258.toHeld (r_row ty190 (k := 0) (i := y18910.toNat) (.there (.there (.there .here))) rfl rfl (row_room hrc18889 hx18967) hes19021 rfl (v := .agg #[.int .i64 _, .slice _ _ _]) rfl) <| wl_nil ?_
       have hH19260 := hS19258.toHeld.mono (Mem.le_refl _) (List.Sublist.subset (.cons _ (.cons_cons _ (.cons_cons _ (.cons _ (.cons_cons _ (.refl _)))))))
       refine ⟨hH19260, ?_⟩
       refine d_all (rs := [9, 11]) (by kernel_rfl) (by simp) (fun j hj o ho => ?_)
       simp only [List.mem_cons, List.not_mem_nil, or_false] at hj
       rcases hj with rfl | rfl
       ·cases ho
        refine wl_h hS19258.toHeld (r_row ty190 (k := 0) (i := y18914.toNat) (.there (.there (.there .here))) rfl rfl (row_room hrc18889 hx18980) hes19029 rfl (v := .agg #[.int .i64 _, .slice _ _ _]) rfl) <| wl_nil ?_
        have hH19261 := hS19258.toHeld.mono (Mem.le_refl _) (List.Sublist.subset (.cons _ (.cons_cons _ (.cons_cons _ (.cons _ (.cons_cons _ (.refl _)))))))
        refine ⟨hH19261, ?_⟩
        refine d_all (rs := [11]) (by kernel_rfl) (by simp) (fun j hj o ho => ?_)
        obtain rfl : j = 11 := by simpa using hj
        cases ho
        refine wl_alloc ty190 rfl hS19258 ?_
        intro b19262 w19263 hS19264
        refine wl_nil ?_
        have hH19265 := hS19264.toHeld.mono (Mem.le_refl _) (List.Sublist.subset (.cons _ (.cons _ (.cons_cons _ (.cons_cons _ (.cons _ (.cons_cons _ (.refl _))))))))
        refine ⟨hH19265, ?_⟩
        refine d_all (rs := [12]) (by kernel_rfl) (by simp) (fun j hj o ho => ?_)
        obtain rfl : j = 12 := by simpa using hj
        cases ho
        refine wl_store_box ty190 hS19264 rfl (v := .agg #[.int .i64 _, .slice _ _ _]) rfl (vs := [.int .i64 _, .slice _ _ _]) rfl rfl rfl (.there .here) (cs' := [.int .i64 _, .slice _ _ _]) rfl rfl ?_
        intro w19266 hS19267
        refine wl_nil ?_
        have hH19268 := hS19267.toHeld.mono (Mem.le_refl _) (List.Sublist.subset (.cons _ (.cons _ (.cons_cons _ (.cons_cons _ (.cons _ (.cons_cons _ (.refl _))))))))
        refine ⟨hH19268, ?_⟩
        refine d_all (rs := [13]) (by kernel_rfl) (by simp) (fun j hj o ho => ?_)
        obtain rfl : j = 13 := by simpa using hj
        cases ho
        refine wl_store_box ty190 hS19267 rfl (v := .agg #[.int .i64 _, .slice _ _ _]) rfl (vs := [.int .i64 _, .slice _ _ _]) rfl rfl rfl .here (cs' := [.int .i64 _, .slice _ _ _]) rfl rfl ?_
        intro w19269 hS19270
        refine wl_nil ?_
        have hH19271 := hS19270.toHeld.mono (Mem.le_refl _) (List.Sublist.subset (.cons _ (.cons _ (.cons_cons _ (.cons_cons _ (.cons _ (.cons_cons _ (.refl _))))))))
        refine ⟨hH19271, ?_⟩
        refine d_end (by kernel_rfl) ?_
        exact ⟨_, _, _, _, _, _, _, _, hr19034, hr19026, hS19270, rfl, rfl, rfl, rfl, rfl, rfl, rfl, rfl, rfl, rfl, rfl, rfl, rfl, rfl⟩
       ·cases ho
        refine wl_alloc ty190 rfl hS19258 ?_
        intro b19272 w19273 hS19274
        refine wl_nil ?_
        have hH19275 := hS19274.toHeld.mono (Mem.le_refl _) (List.Sublist.subset (.cons _ (.cons _ (.cons_cons _ (.cons_cons _ (.cons _ (.cons_cons _ (.refl _))))))))
        refine ⟨hH19275, ?_⟩
        refine d_all (rs := [9, 12]) (by kernel_rfl) (by simp) (fun j hj o ho => ?_)
        simp only [List.mem_cons, List.not_mem_nil, or_false] at hj
        rcases hj with rfl | rfl
        ·cases ho
         refine wl_h hS19274.toHeld (r_row ty190 (k := 0) (i := y18914.toNat) (.there (.there (.there (.there .here)))) rfl rfl (row_room hrc18889 hx18980) hes19029 rfl (v := .agg #[.int .i64 _, .slice _ _ _]) rfl) <| wl_nil ?_
         have hH19276 := hS19274.toHeld.mono (Mem.le_refl _) (List.Sublist.subset (.cons _ (.cons _ (.cons_cons _ (.cons_cons _ (.cons _ (.cons_cons _ (.refl _))))))))
         refine ⟨hH19276, ?_⟩
         refine d_all (rs := [12]) (by kernel_rfl) (by simp) (fun j hj o ho => ?_)
         obtain rfl : j = 12 := by simpa using hj
         cases ho
         refine wl_store_box ty190 hS19274 rfl (v := .agg #[.int .i64 _, .slice _ _ _]) rfl (vs := [.int .i64 _, .slice _ _ _]) rfl rfl rfl (.there .here) (cs' := [.int .i64 _, .slice _ _ _]) rfl rfl ?_
         intro w19277 hS19278
         refine wl_nil ?_
         have hH19279 := hS19278.toHeld.mono (Mem.le_refl _) (List.Sublist.subset (.cons _ (.cons _ (.cons_cons _ (.cons_cons _ (.cons _ (.cons_cons _ (.refl _))))))))
         refine ⟨hH19279, ?_⟩
         refine d_all (rs := [13]) (by kernel_rfl) (by simp) (fun j hj o ho => ?_)
         obtain rfl : j = 13 := by simpa using hj
         cases ho
         refine wl_store_box ty190 hS19278 rfl (v := .agg #[.int .i64 _, .slice _ _ _]) rfl (vs := [.int .i64 _, .slice _ _ _]) rfl rfl rfl .here (cs' := [.int .i64 _, .slice _ _ _]) rfl rfl ?_
         intro w19280 hS19281
         refine wl_nil ?_
         have hH19282 := hS19281.toHeld.mono (Mem.le_refl _) (List.Sublist.subset (.cons _ (.cons _ (.cons_cons _ (.cons_cons _ (.cons _ (.cons_cons _ (.refl _))))))))
         refine ⟨hH19282, ?_⟩
         refine d_end (by kernel_rfl) ?_
         exact ⟨_, _, _, _, _, _, _, _, hr19034, hr19026, hS19281, rfl, rfl, rfl, rfl, rfl, rfl, rfl, rfl, rfl, rfl, rfl, rfl, rfl, rfl⟩
        ·cases ho
         refine wl_store_box ty190 hS19274 rfl (v := .agg #[.int .i64 _, .slice _ _ _]) rfl (vs := [.int .i64 _, .slice _ _ _]) rfl rfl rfl (.there .here) (cs' := [.int .i64 _, .slice _ _ _]) rfl rfl ?_
         intro w19283 hS19284
         refine wl_nil ?_
         have hH19285 := hS19284.toHeld.mono (Mem.le_refl _) (List.Sublist.subset (.cons _ (.cons _ (.cons_cons _ (.cons_cons _ (.cons _ (.cons_cons _ (.refl _))))))))
         refine ⟨hH19285, ?_⟩
         refine d_all (rs := [9]) (by kernel_rfl) (by simp) (fun j hj o ho => ?_)
         obtain rfl : j = 9 := by simpa using hj
         cases ho
         refine wl_h hS19284.toHeld (r_row ty190 (k := 0) (i := y18914.toNat) (.there (.there (.there (.there .here)))) rfl rfl (row_room hrc18889 hx18980) hes19029 rfl (v := .agg #[.int .i64 _, .slice _ _ _]) rfl) <| wl_nil ?_
         have hH19286 := hS19284.toHeld.mono (Mem.le_refl _) (List.Sublist.subset (.cons _ (.cons _ (.cons_cons _ (.cons_cons _ (.cons _ (.cons_cons _ (.refl _))))))))
         refine ⟨hH19286, ?_⟩
         refine d_all (rs := [13]) (by kernel_rfl) (by simp) (fun j hj o ho => ?_)
         obtain rfl : j = 13 := by simpa using hj
         cases ho
         refine wl_store_box ty190 hS19284 rfl (v := .agg #[.int .i64 _, .slice _ _ _]) rfl (vs := [.int .i64 _, .slice _ _ _]) rfl rfl rfl .here (cs' := [.int .i64 _, .slice _ _ _]) rfl rfl ?_
         intro w19287 hS19288
         refine wl_nil ?_
         have hH19289 := hS19288.toHeld.mono (Mem.le_refl _) (List.Sublist.subset (.cons _ (.cons _ (.cons_cons _ (.cons_cons _ (.cons _ (.cons_cons _ (.refl _))))))))
         refine ⟨hH19289, ?_⟩
         refine d_end (by kernel_rfl) ?_
         exact ⟨_, _, _, _, _, _, _, _, hr19034, hr19026, hS19288, rfl, rfl, rfl, rfl, rfl, rfl, rfl, rfl, rfl, rfl, rfl, rfl, rfl, rfl⟩
      ·cases ho
       refine wl_h hS19258.toHeld (r_row ty190 (k := 0) (i := y18914.toNat) (.there (.there (.there .here))) rfl rfl (row_room hrc18889 hx18980) hes19029 rfl (v := .agg #[.int .i64 _, .slice _ _ _]) rfl) <| wl_nil ?_
       have hH19290 := hS19258.toHeld.mono (Mem.le_refl _) (List.Sublist.subset (.cons _ (.cons_cons _ (.cons_cons _ (.cons _ (.cons_cons _ (.refl _)))))))
       refine ⟨hH19290, ?_⟩
       refine d_all (rs := [4, 11]) (by kernel_rfl) (by simp) (fun j hj o ho => ?_)
       simp only [List.mem_cons, List.not_mem_nil, or_false] at hj
       rcases hj with rfl | rfl
       ·cases ho
        refine wl_h hS19258.toHeld (r_row ty190 (k := 0) (i := y18910.toNat) (.there (.there (.there .here))) rfl rfl (row_room hrc18889 hx18967) hes19021 rfl (v := .agg #[.int .i64 _, .slice _ _ _]) rfl) <| wl_nil ?_
        have hH19291 := hS19258.toHeld.mono (Mem.le_refl _) (List.Sublist.subset (.cons _ (.cons_cons _ (.cons_cons _ (.cons _ (.cons_cons _ (.refl _)))))))
        refine ⟨hH19291, ?_⟩
        refine d_all (rs := [11]) (by kernel_rfl) (by simp) (fun j hj o ho => ?_)
        obtain rfl : j = 11 := by simpa using hj
        cases ho
        refine wl_alloc ty190 rfl hS19258 ?_
        intro b19292 w19293 hS19294
        refine wl_nil ?_
        have hH19295 := hS19294.toHeld.mono (Mem.le_refl _) (List.Sublist.subset (.cons _ (.cons _ (.cons_cons _ (.cons_cons _ (.cons _ (.cons_cons _ (.refl _))))))))
        refine ⟨hH19295, ?_⟩
        refine d_all (rs := [12]) (by kernel_rfl) (by simp) (fun j hj o ho => ?_)
        obtain rfl : j = 12 := by simpa using hj
        cases ho
        refine wl_store_box ty190 hS19294 rfl (v := .agg #[.int .i64 _, .slice _ _ _]) rfl (vs := [.int .i64 _, .slice _ _ _]) rfl rfl rfl (.there .here) (cs' := [.int .i64 _, .slice _ _ _]) rfl rfl ?_
        intro w19296 hS19297
        refine wl_nil ?_
        have hH19298 := hS19297.toHeld.mono (Mem.le_refl _) (List.Sublist.subset (.cons _ (.cons _ (.cons_cons _ (.cons_cons _ (.cons _ (.cons_cons _ (.refl _))))))))
        refine ⟨hH19298, ?_⟩
        refine d_all (rs := [13]) (by kernel_rfl) (by simp) (fun j hj o ho => ?_)
        obtain rfl : j = 13 := by simpa using hj
        cases ho
        refine wl_store_box ty190 hS19297 rfl (v := .agg #[.int .i64 _, .slice _ _ _]) rfl (vs := [.int .i64 _, .slice _ _ _]) rfl rfl rfl .here (cs' := [.int .i64 _, .slice _ _ _]) rfl rfl ?_
        intro w19299 hS19300
        refine wl_nil ?_
        have hH19301 := hS19300.toHeld.mono (Mem.le_refl _) (List.Sublist.subset (.cons _ (.cons _ (.cons_cons _ (.cons_cons _ (.cons _ (.cons_cons _ (.refl _))))))))
        refine ⟨hH19301, ?_⟩
        refine d_end (by kernel_rfl) ?_
        exact ⟨_, _, _, _, _, _, _, _, hr19034, hr19026, hS19300, rfl, rfl, rfl, rfl, rfl, rfl, rfl, rfl, rfl, rfl, rfl, rfl, rfl, rfl⟩
       ·cases ho
        refine wl_alloc ty190 rfl hS19258 ?_
        intro b19302 w19303 hS19304
        refine wl_nil ?_
        have hH19305 := hS19304.toHeld.mono (Mem.le_refl _) (List.Sublist.subset (.cons _ (.cons _ (.cons_cons _ (.cons_cons _ (.cons _ (.cons_cons _ (.refl _))))))))
        refine ⟨hH19305, ?_⟩
        refine d_all (rs := [4]) (by kernel_rfl) (by simp) (fun j hj o ho => ?_)
        obtain rfl : j = 4 := by simpa using hj
        cases ho
        refine wl_h hS19304.toHeld (r_row ty190 (k := 0) (i := y18910.toNat) (.there (.there (.there (.there .here)))) rfl rfl (row_room hrc18889 hx18967) hes19021 rfl (v := .agg #[.int .i64 _, .slice _ _ _]) rfl) <| wl_nil ?_
        have hH19306 := hS19304.toHeld.mono (Mem.le_refl _) (List.Sublist.subset (.cons _ (.cons _ (.cons_cons _ (.cons_cons _ (.cons _ (.cons_cons _ (.refl _))))))))
        refine ⟨hH19306, ?_⟩
        refine d_all (rs := [12]) (by kernel_rfl) (by simp) (fun j hj o ho => ?_)
        obtain rfl : j = 12 := by simpa using hj
        cases ho
        refine wl_store_box ty190 hS19304 rfl (v := .agg #[.int .i64 _, .slice _ _ _]) rfl (vs := [.int .i64 _, .slice _ _ _]) rfl rfl rfl (.there .here) (cs' := [.int .i64 _, .slice _ _ _]) rfl rfl ?_
        intro w19307 hS19308
        refine wl_nil ?_
        have hH19309 := hS19308.toHeld.mono (Mem.le_refl _) (List.Sublist.subset (.cons _ (.cons _ (.cons_cons _ (.cons_cons _ (.cons _ (.cons_cons _ (.refl _))))))))
        refine ⟨hH19309, ?_⟩
        refine d_all (rs := [13]) (by kernel_rfl) (by simp) (fun j hj o ho => ?_)
        obtain rfl : j = 13 := by simpa using hj
        cases ho
        refine wl_store_box ty190 hS19308 rfl (v := .agg #[.int .i64 _, .slice _ _ _]) rfl (vs := [.int .i64 _, .slice _ _ _]) rfl rfl rfl .here (cs' := [.int .i64 _, .slice _ _ _]) rfl rfl ?_
        intro w19310 hS19311
        refine wl_nil ?_
        have hH19312 := hS19311.toHeld.mono (Mem.le_refl _) (List.Sublist.subset (.cons _ (.cons _ (.cons_cons _ (.cons_cons _ (.cons _ (.cons_cons _ (.refl _))))))))
        refine ⟨hH19312, ?_⟩
        refine d_end (by kernel_rfl) ?_
        exact ⟨_, _, _, _, _, _, _, _, hr19034, hr19026, hS19311, rfl, rfl, rfl, rfl, rfl, rfl, rfl, rfl, rfl, rfl, rfl, rfl, rfl, rfl⟩
      ·cases ho
       refine wl_alloc ty190 rfl hS19258 ?_
       intro b19313 w19314 hS19315
       refine wl_nil ?_
       have hH19316 := hS19315.toHeld.mono (Mem.le_refl _) (List.Sublist.subset (.cons _ (.cons _ (.cons_cons _ (.cons_cons _ (.cons _ (.cons_cons _ (.refl _))))))))
       refine ⟨hH19316, ?_⟩
       refine d_all (rs := [4, 9]) (by kernel_rfl) (by simp) (fun j hj o ho => ?_)
       simp only [List.mem_cons, List.not_mem_nil, or_false] at hj
       rcases hj with rfl | rfl
       ·cases ho
        refine wl_h hS19315.toHeld (r_row ty190 (k := 0) (i := y18910.toNat) (.there (.there (.there (.there .here)))) rfl rfl (row_room hrc18889 hx18967) hes19021 rfl (v := .agg #[.int .i64 _, .slice _ _ _]) rfl) <| wl_nil ?_
        have hH19317 := hS19315.toHeld.mono (Mem.le_refl _) (List.Sublist.subset (.cons _ (.cons _ (.cons_cons _ (.cons_cons _ (.cons _ (.cons_cons _ (.refl _))))))))
        refine ⟨hH19317, ?_⟩
        refine d_all (rs := [9, 12]) (by kernel_rfl) (by simp) (fun j hj o ho => ?_)
        simp only [List.mem_cons, List.not_mem_nil, or_false] at hj
        rcases hj with rfl | rfl
        ·cases ho
         refine wl_h hS19315.toHeld (r_row ty190 (k := 0) (i := y18914.toNat) (.there (.there (.there (.there .here)))) rfl rfl (row_room hrc18889 hx18980) hes19029 rfl (v := .agg #[.int .i64 _, .slice _ _ _]) rfl) <| wl_nil ?_
         have hH19318 := hS19315.toHeld.mono (Mem.le_refl _) (List.Sublist.subset (.cons _ (.cons _ (.cons_cons _ (.cons_cons _ (.cons _ (.cons_cons _ (.refl _))))))))
         refine ⟨hH19318, ?_⟩
         refine d_all (rs := [12]) (by kernel_rfl) (by simp) (fun j hj o ho => ?_)
         obtain rfl : j = 12 := by simpa using hj
         cases ho
         refine wl_store_box ty190 hS19315 rfl (v := .agg #[.int .i64 _, .slice _ _ _]) rfl (vs := [.int .i64 _, .slice _ _ _]) rfl rfl rfl (.there .here) (cs' := [.int .i64 _, .slice _ _ _]) rfl rfl ?_
         intro w19319 hS19320
         refine wl_nil ?_
         have hH19321 := hS19320.toHeld.mono (Mem.le_refl _) (List.Sublist.subset (.cons _ (.cons _ (.cons_cons _ (.cons_cons _ (.cons _ (.cons_cons _ (.refl _))))))))
         refine ⟨hH19321, ?_⟩
         refine d_all (rs := [13]) (by kernel_rfl) (by simp) (fun j hj o ho => ?_)
         obtain rfl : j = 13 := by simpa using hj
         cases ho
         refine wl_store_box ty190 hS19320 rfl (v := .agg #[.int .i64 _, .slice _ _ _]) rfl (vs := [.int .i64 _, .slice _ _ _]) rfl rfl rfl .here (cs' := [.int .i64 _, .slice _ _ _]) rfl rfl ?_
         intro w19322 hS19323
         refine wl_nil ?_
         have hH19324 := hS19323.toHeld.mono (Mem.le_refl _) (List.Sublist.subset (.cons _ (.cons _ (.cons_cons _ (.cons_cons _ (.cons _ (.cons_cons _ (.refl _))))))))
         refine ⟨hH19324, ?_⟩
         refine d_end (by kernel_rfl) ?_
         exact ⟨_, _, _, _, _, _, _, _, hr19034, hr19026, hS19323, rfl, rfl, rfl, rfl, rfl, rfl, rfl, rfl, rfl, rfl, rfl, rfl, rfl, rfl⟩
        ·cases ho
         refine wl_store_box ty190 hS19315 rfl (v := .agg #[.int .i64 _, .slice _ _ _]) rfl (vs := [.int .i64 _, .slice _ _ _]) rfl rfl rfl (.there .here) (cs' := [.int .i64 _, .slice _ _ _]) rfl rfl ?_
         intro w19325 hS19326
         refine wl_nil ?_
         have hH19327 := hS19326.toHeld.mono (Mem.le_refl _) (List.Sublist.subset (.cons _ (.cons _ (.cons_cons _ (.cons_cons _ (.cons _ (.cons_cons _ (.refl _))))))))
         refine ⟨hH19327, ?_⟩
         refine d_all (rs := [9]) (by kernel_rfl) (by simp) (fun j hj o ho => ?_)
         obtain rfl : j = 9 := by simpa using hj
         cases ho
         refine wl_h hS19326.toHeld (r_row ty190 (k := 0) (i := y18914.toNat) (.there (.there (.there (.there .here)))) rfl rfl (row_room hrc18889 hx18980) hes19029 rfl (v := .agg #[.int .i64 _, .slice _ _ _]) rfl) <| wl_nil ?_
         have hH19328 := hS19326.toHeld.mono (Mem.le_refl _) (List.Sublist.subset (.cons _ (.cons _ (.cons_cons _ (.cons_cons _ (.cons _ (.cons_cons _ (.refl _))))))))
         refine ⟨hH19328, ?_⟩
         refine d_all (rs := [13]) (by kernel_rfl) (by simp) (fun j hj o ho => ?_)
         obtain rfl : j = 13 := by simpa using hj
         cases ho
         refine wl_store_box ty190 hS19326 rfl (v := .agg #[.int .i64 _, .slice _ _ _]) rfl (vs := [.int .i64 _, .slice _ _ _]) rfl rfl rfl .here (cs' := [.int .i64 _, .slice _ _ _]) rfl rfl ?_
         intro w19329 hS19330
         refine wl_nil ?_
         have hH19331 := hS19330.toHeld.mono (Mem.le_refl _) (List.Sublist.subset (.cons _ (.cons _ (.cons_cons _ (.cons_cons _ (.cons _ (.cons_cons _ (.refl _))))))))
         refine ⟨hH19331, ?_⟩
         refine d_end (by kernel_rfl) ?_
         exact ⟨_, _, _, _, _, _, _, _, hr19034, hr19026, hS19330, rfl, rfl, rfl, rfl, rfl, rfl, rfl, rfl, rfl, rfl, rfl, rfl, rfl, rfl⟩
       ·cases ho
        refine wl_h hS19315.toHeld (r_row ty190 (k := 0) (i := y18914.toNat) (.there (.there (.there (.there .here)))) rfl rfl (row_room hrc18889 hx18980) hes19029 rfl (v := .agg #[.int .i64 _, .slice _ _ _]) rfl) <| wl_nil ?_
        have hH19332 := hS19315.toHeld.mono (Mem.le_refl _) (List.Sublist.subset (.cons _ (.cons _ (.cons_cons _ (.cons_cons _ (.cons _ (.cons_cons _ (.refl _))))))))
        refine ⟨hH19332, ?_⟩
        refine d_all (rs := [4]) (by kernel_rfl) (by simp) (fun j hj o ho => ?_)
        obtain rfl : j = 4 := by simpa using hj
        cases ho
        refine wl_h hS19315.toHeld (r_row ty190 (k := 0) (i := y18910.toNat) (.there (.there (.there (.there .here)))) rfl rfl (row_room hrc18889 hx18967) hes19021 rfl (v := .agg #[.int .i64 _, .slice _ _ _]) rfl) <| wl_nil ?_
        have hH19333 := hS19315.toHeld.mono (Mem.le_refl _) (List.Sublist.subset (.cons _ (.cons _ (.cons_cons _ (.cons_cons _ (.cons _ (.cons_cons _ (.refl _))))))))
        refine ⟨hH19333, ?_⟩
        refine d_all (rs := [12]) (by kernel_rfl) (by simp) (fun j hj o ho => ?_)
        obtain rfl : j = 12 := by simpa using hj
        cases ho
        refine wl_store_box ty190 hS19315 rfl (v := .agg #[.int .i64 _, .slice _ _ _]) rfl (vs := [.int .i64 _, .slice _ _ _]) rfl rfl rfl (.there .here) (cs' := [.int .i64 _, .slice _ _ _]) rfl rfl ?_
        intro w19334 hS19335
        refine wl_nil ?_
        have hH19336 := hS19335.toHeld.mono (Mem.le_refl _) (List.Sublist.subset (.cons _ (.cons _ (.cons_cons _ (.cons_cons _ (.cons _ (.cons_cons _ (.refl _))))))))
        refine ⟨hH19336, ?_⟩
        refine d_all (rs := [13]) (by kernel_rfl) (by simp) (fun j hj o ho => ?_)
        obtain rfl : j = 13 := by simpa using hj
        cases ho
        refine wl_store_box ty190 hS19335 rfl (v := .agg #[.int .i64 _, .slice _ _ _]) rfl (vs := [.int .i64 _, .slice _ _ _]) rfl rfl rfl .here (cs' := [.int .i64 _, .slice _ _ _]) rfl rfl ?_
        intro w19337 hS19338
        refine wl_nil ?_
        have hH19339 := hS19338.toHeld.mono (Mem.le_refl _) (List.Sublist.subset (.cons _ (.cons _ (.cons_cons _ (.cons_cons _ (.cons _ (.cons_cons _ (.refl _))))))))
        refine ⟨hH19339, ?_⟩
        refine d_end (by kernel_rfl) ?_
        exact ⟨_, _, _, _, _, _, _, _, hr19034, hr19026, hS19338, rfl, rfl, rfl, rfl, rfl, rfl, rfl, rfl, rfl, rfl, rfl, rfl, rfl, rfl⟩
     ·cases ho
      refine wl_alloc ty190 rfl hS19018 ?_
      intro b19340 w19341 hS19342
      refine wl_nil ?_
      have hH19343 := hS19342.toHeld.mono (Mem.le_refl _) (List.Sublist.subset (.cons _ (.cons_cons _ (.cons_cons _ (.cons _ (.cons_cons _ (.refl _)))))))
      refine ⟨hH19343, ?_⟩
      refine d_all (rs := [4, 9, 10]) (by kernel_rfl) (by simp) (fun j hj o ho => ?_)
      simp only [List.mem_cons, List.not_mem_nil, or_false] at hj
      rcases hj with rfl | rfl | rfl
      ·cases ho
       refine wl_h hS19342.toHeld (r_row ty190 (k := 0) (i := y18910.toNat) (.there (.there (.there .here))) rfl rfl (row_room hrc18889 hx18967) hes19021 rfl (v := .agg #[.int .i64 _, .slice _ _ _]) rfl) <| wl_nil ?_
       have hH19344 := hS19342.toHeld.mono (Mem.le_refl _) (List.Sublist.subset (.cons _ (.cons_cons _ (.cons_cons _ (.cons _ (.cons_cons _ (.refl _)))))))
       refine ⟨hH19344, ?_⟩
       refine d_all (rs := [9, 10]) (by kernel_rfl) (by simp) (fun j hj o ho => ?_)
       simp only [List.mem_cons, List.not_mem_nil, or_false] at hj
       rcases hj with rfl | rfl
       ·cases ho
        refine wl_h hS19342.toHeld (r_row ty190 (k := 0) (i := y18914.toNat) (.there (.there (.there .here))) rfl rfl (row_room hrc18889 hx18980) hes19029 rfl (v := .agg #[.int .i64 _, .slice _ _ _]) rfl) <| wl_nil ?_
        have hH19345 := hS19342.toHeld.mono (Mem.le_refl _) (List.Sublist.subset (.cons _ (.cons_cons _ (.cons_cons _ (.cons _ (.cons_cons _ (.refl _)))))))
        refine ⟨hH19345, ?_⟩
        refine d_all (rs := [10]) (by kernel_rfl) (by simp) (fun j hj o ho => ?_)
        obtain rfl : j = 10 := by simpa using hj
        cases ho
        refine wl_alloc ty190 rfl hS19342 ?_
        intro b19346 w19347 hS19348
        refine wl_nil ?_
        have hH19349 := hS19348.toHeld.mono (Mem.le_refl _) (List.Sublist.subset (.cons _ (.cons _ (.cons_cons _ (.cons_cons _ (.cons _ (.cons_cons _ (.refl _))))))))
        refine ⟨hH19349, ?_⟩
        refine d_all (rs := [12]) (by kernel_rfl) (by simp) (fun j hj o ho => ?_)
        obtain rfl : j = 12 := by simpa using hj
        cases ho
        refine wl_store_box ty190 hS19348 rfl (v := .agg #[.int .i64 _, .slice _ _ _]) rfl (vs := [.int .i64 _, .slice _ _ _]) rfl rfl rfl .here (cs' := [.int .i64 _, .slice _ _ _]) rfl rfl ?_
        intro w19350 hS19351
        refine wl_nil ?_
        have hH19352 := hS19351.toHeld.mono (Mem.le_refl _) (List.Sublist.subset (.cons _ (.cons _ (.cons_cons _ (.cons_cons _ (.cons _ (.cons_cons _ (.refl _))))))))
        refine ⟨hH19352, ?_⟩
        refine d_all (rs := [13]) (by kernel_rfl) (by simp) (fun j hj o ho => ?_)
        obtain rfl : j = 13 := by simpa using hj
        cases ho
        refine wl_store_box ty190 hS19351 rfl (v := .agg #[.int .i64 _, .slice _ _ _]) rfl (vs := [.int .i64 _, .slice _ _ _]) rfl rfl rfl (.there .here) (cs' := [.int .i64 _, .slice _ _ _]) rfl rfl ?_
        intro w19353 hS19354
        refine wl_nil ?_
        have hH19355 := hS19354.toHeld.mono (Mem.le_refl _) (List.Sublist.subset (.cons _ (.cons _ (.cons_cons _ (.cons_cons _ (.cons _ (.cons_cons _ (.refl _))))))))
        refine ⟨hH19355, ?_⟩
        refine d_end (by kernel_rfl) ?_
        have hS19356 := hS19354.front (.there (.there (.there (.there (.there .here)))))
        have hS19357 := hS19356.front (.there (.there (.there (.there (.there .here)))))
        have hS19358 := hS19357.front (.there (.there (.there (.there (.there .here)))))
        have hS19359 := hS19358.front (.there (.there (.there (.there (.there .here)))))
        have hS19360 := hS19359.front (.there (.there (.there (.there .here))))
        have hS19361 := hS19360.front (.there (.there (.there (.there (.there .here)))))
        exact ⟨_, _, _, _, _, _, _, _, hr19034, hr19026, hS19361, rfl, rfl, rfl, rfl, rfl, rfl, rfl, rfl, rfl, rfl, rfl, rfl, rfl, rfl⟩
       ·cases ho
        refine wl_alloc ty190 rfl hS19342 ?_
        intro b19362 w19363 hS19364
        refine wl_nil ?_
        have hH19365 := hS19364.toHeld.mono (Mem.le_refl _) (List.Sublist.subset (.cons _ (.cons _ (.cons_cons _ (.cons_cons _ (.cons _ (.cons_cons _ (.refl _))))))))
        refine ⟨hH19365, ?_⟩
        refine d_all (rs := [9, 12]) (by kernel_rfl) (by simp) (fun j hj o ho => ?_)
        simp only [List.mem_cons, List.not_mem_nil, or_false] at hj
        rcases hj with rfl | rfl
        ·cases ho
         refine wl_h hS19364.toHeld (r_row ty190 (k := 0) (i := y18914.toNat) (.there (.there (.there (.there .here)))) rfl rfl (row_room hrc18889 hx18980) hes19029 rfl (v := .agg #[.int .i64 _, .slice _ _ _]) rfl) <| wl_nil ?_
         have hH19366 := hS19364.toHeld.mono (Mem.le_refl _) (List.Sublist.subset (.cons _ (.cons _ (.cons_cons _ (.cons_cons _ (.cons _ (.cons_cons _ (.refl _))))))))
         refine ⟨hH19366, ?_⟩
         refine d_all (rs := [12]) (by kernel_rfl) (by simp) (fun j hj o ho => ?_)
         obtain rfl : j = 12 := by simpa using hj
         cases ho
         refine wl_store_box ty190 hS19364 rfl (v := .agg #[.int .i64 _, .slice _ _ _]) rfl (vs := [.int .i64 _, .slice _ _ _]) rfl rfl rfl .here (cs' := [.int .i64 _, .slice _ _ _]) rfl rfl ?_
         intro w19367 hS19368
         refine wl_nil ?_
         have hH19369 := hS19368.toHeld.mono (Mem.le_refl _) (List.Sublist.subset (.cons _ (.cons _ (.cons_cons _ (.cons_cons _ (.cons _ (.cons_cons _ (.refl _))))))))
         refine ⟨hH19369, ?_⟩
         refine d_all (rs := [13]) (by kernel_rfl) (by simp) (fun j hj o ho => ?_)
         obtain rfl : j = 13 := by simpa using hj
         cases ho
         refine wl_store_box ty190 hS19368 rfl (v := .agg #[.int .i64 _, .slice _ _ _]) rfl (vs := [.int .i64 _, .slice _ _ _]) rfl rfl rfl (.there .here) (cs' := [.int .i64 _, .slice _ _ _]) rfl rfl ?_
         intro w19370 hS19371
         refine wl_nil ?_
         have hH19372 := hS19371.toHeld.mono (Mem.le_refl _) (List.Sublist.subset (.cons _ (.cons _ (.cons_cons _ (.cons_cons _ (.cons _ (.cons_cons _ (.refl _))))))))
         refine ⟨hH19372, ?_⟩
         refine d_end (by kernel_rfl) ?_
         have hS19373 := hS19371.front (.there (.there (.there (.there (.there .here)))))
         have hS19374 := hS19373.front (.there (.there (.there (.there (.there .here)))))
         have hS19375 := hS19374.front (.there (.there (.there (.there (.there .here)))))
         have hS19376 := hS19375.front (.there (.there (.there (.there (.there .here)))))
         have hS19377 := hS19376.front (.there (.there (.there (.there .here))))
         have hS19378 := hS19377.front (.there (.there (.there (.there (.there .here)))))
         exact ⟨_, _, _, _, _, _, _, _, hr19034, hr19026, hS19378, rfl, rfl, rfl, rfl, rfl, rfl, rfl, rfl, rfl, rfl, rfl, rfl, rfl, rfl⟩
        ·cases ho
         refine wl_store_box ty190 hS19364 rfl (v := .agg #[.int .i64 _, .slice _ _ _]) rfl (vs := [.int .i64 _, .slice _ _ _]) rfl rfl rfl .here (cs' := [.int .i64 _, .slice _ _ _]) rfl rfl ?_
         intro w19379 hS19380
         refine wl_nil ?_
         have hH19381 := hS19380.toHeld.mono (Mem.le_refl _) (List.Sublist.subset (.cons _ (.cons _ (.cons_cons _ (.cons_cons _ (.cons _ (.cons_cons _ (.refl _))))))))
         refine ⟨hH19381, ?_⟩
         refine d_all (rs := [9]) (by kernel_rfl) (by simp) (fun j hj o ho => ?_)
         obtain rfl : j = 9 := by simpa using hj
         cases ho
         refine wl_h hS19380.toHeld (r_row ty190 (k := 0) (i := y18914.toNat) (.there (.there (.there (.there .here)))) rfl rfl (row_room hrc18889 hx18980) hes19029 rfl (v := .agg #[.int .i64 _, .slice _ _ _]) rfl) <| wl_nil ?_
         have hH19382 := hS19380.toHeld.mono (Mem.le_refl _) (List.Sublist.subset (.cons _ (.cons _ (.cons_cons _ (.cons_cons _ (.cons _ (.cons_cons _ (.refl _))))))))
         refine ⟨hH19382, ?_⟩
         refine d_all (rs := [13]) (by kernel_rfl) (by simp) (fun j hj o ho => ?_)
         obtain rfl : j = 13 := by simpa using hj
         cases ho
         refine wl_store_box ty190 hS19380 rfl (v := .agg #[.int .i64 _, .slice _ _ _]) rfl (vs := [.int .i64 _, .slice _ _ _]) rfl rfl rfl (.there .here) (cs' := [.int .i64 _, .slice _ _ _]) rfl rfl ?_
         intro w19383 hS19384
         refine wl_nil ?_
         have hH19385 := hS19384.toHeld.mono (Mem.le_refl _) (List.Sublist.subset (.cons _ (.cons _ (.cons_cons _ (.cons_cons _ (.cons _ (.cons_cons _ (.refl _))))))))
         refine ⟨hH19385, ?_⟩
         refine d_end (by kernel_rfl) ?_
         have hS19386 := hS19384.front (.there (.there (.there (.there (.there .here)))))
         have hS19387 := hS19386.front (.there (.there (.there (.there (.there .here)))))
         have hS19388 := hS19387.front (.there (.there (.there (.there (.there .here)))))
         have hS19389 := hS19388.front (.there (.there (.there (.there (.there .here)))))
         have hS19390 := hS19389.front (.there (.there (.there (.there .here))))
         have hS19391 := hS19390.front (.there (.there (.there (.there (.there .here)))))
         exact ⟨_, _, _, _, _, _, _, _, hr19034, hr19026, hS19391, rfl, rfl, rfl, rfl, rfl, rfl, rfl, rfl, rfl, rfl, rfl, rfl, rfl, rfl⟩
      ·cases ho
       refine wl_h hS19342.toHeld (r_row ty190 (k := 0) (i := y18914.toNat) (.there (.there (.there .here))) rfl rfl (row_room hrc18889 hx18980) hes19029 rfl (v := .agg #[.int .i64 _, .slice _ _ _]) rfl) <| wl_nil ?_
       have hH19392 := hS19342.toHeld.mono (Mem.le_refl _) (List.Sublist.subset (.cons _ (.cons_cons _ (.cons_cons _ (.cons _ (.cons_cons _ (.refl _)))))))
       refine ⟨hH19392, ?_⟩
       refine d_all (rs := [4, 10]) (by kernel_rfl) (by simp) (fun j hj o ho => ?_)
       simp only [List.mem_cons, List.not_mem_nil, or_false] at hj
       rcases hj with rfl | rfl
       ·cases ho
        refine wl_h hS19342.toHeld (r_row ty190 (k := 0) (i := y18910.toNat) (.there (.there (.there .here))) rfl rfl (row_room hrc18889 hx18967) hes19021 rfl (v := .agg #[.int .i64 _, .slice _ _ _]) rfl) <| wl_nil ?_
        have hH19393 := hS19342.toHeld.mono (Mem.le_refl _) (List.Sublist.subset (.cons _ (.cons_cons _ (.cons_cons _ (.cons _ (.cons_cons _ (.refl _)))))))
        refine ⟨hH19393, ?_⟩
        refine d_all (rs := [10]) (by kernel_rfl) (by simp) (fun j hj o ho => ?_)
        obtain rfl : j = 10 := by simpa using hj
        cases ho
        refine wl_alloc ty190 rfl hS19342 ?_
        intro b19394 w19395 hS19396
        refine wl_nil ?_
        have hH19397 := hS19396.toHeld.mono (Mem.le_refl _) (List.Sublist.subset (.cons _ (.cons _ (.cons_cons _ (.cons_cons _ (.cons _ (.cons_cons _ (.refl _))))))))
        refine ⟨hH19397, ?_⟩
        refine d_all (rs := [12]) (by kernel_rfl) (by simp) (fun j hj o ho => ?_)
        obtain rfl : j = 12 := by simpa using hj
        cases ho
        refine wl_store_box ty190 hS19396 rfl (v := .agg #[.int .i64 _, .slice _ _ _]) rfl (vs := [.int .i64 _, .slice _ _ _]) rfl rfl rfl .here (cs' := [.int .i64 _, .slice _ _ _]) rfl rfl ?_
        intro w19398 hS19399
        refine wl_nil ?_
        have hH19400 := hS19399.toHeld.mono (Mem.le_refl _) (List.Sublist.subset (.cons _ (.cons _ (.cons_cons _ (.cons_cons _ (.cons _ (.cons_cons _ (.refl _))))))))
        refine ⟨hH19400, ?_⟩
        refine d_all (rs := [13]) (by kernel_rfl) (by simp) (fun j hj o ho => ?_)
        obtain rfl : j = 13 := by simpa using hj
        cases ho
        refine wl_store_box ty190 hS19399 rfl (v := .agg #[.int .i64 _, .slice _ _ _]) rfl (vs := [.int .i64 _, .slice _ _ _]) rfl rfl rfl (.there .here) (cs' := [.int .i64 _, .slice _ _ _]) rfl rfl ?_
        intro w19401 hS19402
        refine wl_nil ?_
        have hH19403 := hS19402.toHeld.mono (Mem.le_refl _) (List.Sublist.subset (.cons _ (.cons _ (.cons_cons _ (.cons_cons _ (.cons _ (.cons_cons _ (.refl _))))))))
        refine ⟨hH19403, ?_⟩
        refine d_end (by kernel_rfl) ?_
        have hS19404 := hS19402.front (.there (.there (.there (.there (.there .here)))))
        have hS19405 := hS19404.front (.there (.there (.there (.there (.there .here)))))
        have hS19406 := hS19405.front (.there (.there (.there (.there (.there .here)))))
        have hS19407 := hS19406.front (.there (.there (.there (.there (.there .here)))))
        have hS19408 := hS19407.front (.there (.there (.there (.there .here))))
        have hS19409 := hS19408.front (.there (.there (.there (.there (.there .here)))))
        exact ⟨_, _, _, _, _, _, _, _, hr19034, hr19026, hS19409, rfl, rfl, rfl, rfl, rfl, rfl, rfl, rfl, rfl, rfl, rfl, rfl, rfl, rfl⟩
       ·cases ho
        refine wl_alloc ty190 rfl hS19342 ?_
        intro b19410 w19411 hS19412
        refine wl_nil ?_
        have hH19413 := hS19412.toHeld.mono (Mem.le_refl _) (List.Sublist.subset (.cons _ (.cons _ (.cons_cons _ (.cons_cons _ (.cons _ (.cons_cons _ (.refl _))))))))
        refine ⟨hH19413, ?_⟩
        refine d_all (rs := [4]) (by kernel_rfl) (by simp) (fun j hj o ho => ?_)
        obtain rfl : j = 4 := by simpa using hj
        cases ho
        refine wl_h hS19412.toHeld (r_row ty190 (k := 0) (i := y18910.toNat) (.there (.there (.there (.there .here)))) rfl rfl (row_room hrc18889 hx18967) hes19021 rfl (v := .agg #[.int .i64 _, .slice _ _ _]) rfl) <| wl_nil ?_
        have hH19414 := hS19412.toHeld.mono (Mem.le_refl _) (List.Sublist.subset (.cons _ (.cons _ (.cons_cons _ (.cons_cons _ (.cons _ (.cons_cons _ (.refl _))))))))
        refine ⟨hH19414, ?_⟩
        refine d_all (rs := [12]) (by kernel_rfl) (by simp) (fun j hj o ho => ?_)
        obtain rfl : j = 12 := by simpa using hj
        cases ho
        refine wl_store_box ty190 hS19412 rfl (v := .agg #[.int .i64 _, .slice _ _ _]) rfl (vs := [.int .i64 _, .slice _ _ _]) rfl rfl rfl .here (cs' := [.int .i64 _, .slice _ _ _]) rfl rfl ?_
        intro w19415 hS19416
        refine wl_nil ?_
        have hH19417 := hS19416.toHeld.mono (Mem.le_refl _) (List.Sublist.subset (.cons _ (.cons _ (.cons_cons _ (.cons_cons _ (.cons _ (.cons_cons _ (.refl _))))))))
        refine ⟨hH19417, ?_⟩
        refine d_all (rs := [13]) (by kernel_rfl) (by simp) (fun j hj o ho => ?_)
        obtain rfl : j = 13 := by simpa using hj
        cases ho
        refine wl_store_box ty190 hS19416 rfl (v := .agg #[.int .i64 _, .slice _ _ _]) rfl (vs := [.int .i64 _, .slice _ _ _]) rfl rfl rfl (.there .here) (cs' := [.int .i64 _, .slice _ _ _]) rfl rfl ?_
        intro w19418 hS19419
        refine wl_nil ?_
        have hH19420 := hS19419.toHeld.mono (Mem.le_refl _) (List.Sublist.subset (.cons _ (.cons _ (.cons_cons _ (.cons_cons _ (.cons _ (.cons_cons _ (.refl _))))))))
        refine ⟨hH19420, ?_⟩
        refine d_end (by kernel_rfl) ?_
        have hS19421 := hS19419.front (.there (.there (.there (.there (.there .here)))))
        have hS19422 := hS19421.front (.there (.there (.there (.there (.there .here)))))
        have hS19423 := hS19422.front (.there (.there (.there (.there (.there .here)))))
        have hS19424 := hS19423.front (.there (.there (.there (.there (.there .here)))))
        have hS19425 := hS19424.front (.there (.there (.there (.there .here))))
        have hS19426 := hS19425.front (.there (.there (.there (.there (.there .here)))))
        exact ⟨_, _, _, _, _, _, _, _, hr19034, hr19026, hS19426, rfl, rfl, rfl, rfl, rfl, rfl, rfl, rfl, rfl, rfl, rfl, rfl, rfl, rfl⟩
      ·cases ho
       refine wl_alloc ty190 rfl hS19342 ?_
       intro b19427 w19428 hS19429
       refine wl_nil ?_
       have hH19430 := hS19429.toHeld.mono (Mem.le_refl _) (List.Sublist.subset (.cons _ (.cons _ (.cons_cons _ (.cons_cons _ (.cons _ (.cons_cons _ (.refl _))))))))
       refine ⟨hH19430, ?_⟩
       refine d_all (rs := [4, 9]) (by kernel_rfl) (by simp) (fun j hj o ho => ?_)
       simp only [List.mem_cons, List.not_mem_nil, or_false] at hj
       rcases hj with rfl | rfl
       ·cases ho
        refine wl_h hS19429.toHeld (r_row ty190 (k := 0) (i := y18910.toNat) (.there (.there (.there (.there .here)))) rfl rfl (row_room hrc18889 hx18967) hes19021 rfl (v := .agg #[.int .i64 _, .slice _ _ _]) rfl) <| wl_nil ?_
        have hH19431 := hS19429.toHeld.mono (Mem.le_refl _) (List.Sublist.subset (.cons _ (.cons _ (.cons_cons _ (.cons_cons _ (.cons _ (.cons_cons _ (.refl _))))))))
        refine ⟨hH19431, ?_⟩
        refine d_all (rs := [9, 12]) (by kernel_rfl) (by simp) (fun j hj o ho => ?_)
        simp only [List.mem_cons, List.not_mem_nil, or_false] at hj
        rcases hj with rfl | rfl
        ·cases ho
         refine wl_h hS19429.toHeld (r_row ty190 (k := 0) (i := y18914.toNat) (.there (.there (.there (.there .here)))) rfl rfl (row_room hrc18889 hx18980) hes19029 rfl (v := .agg #[.int .i64 _, .slice _ _ _]) rfl) <| wl_nil ?_
         have hH19432 := hS19429.toHeld.mono (Mem.le_refl _) (List.Sublist.subset (.cons _ (.cons _ (.cons_cons _ (.cons_cons _ (.cons _ (.cons_cons _ (.refl _))))))))
         refine ⟨hH19432, ?_⟩
         refine d_all (rs := [12]) (by kernel_rfl) (by simp) (fun j hj o ho => ?_)
         obtain rfl : j = 12 := by simpa using hj
         cases ho
         refine wl_store_box ty190 hS19429 rfl (v := .agg #[.int .i64 _, .slice _ _ _]) rfl (vs := [.int .i64 _, .slice _ _ _]) rfl rfl rfl .here (cs' := [.int .i64 _, .slice _ _ _]) rfl rfl ?_
         intro w19433 hS19434
         refine wl_nil ?_
         have hH19435 := hS19434.toHeld.mono (Mem.le_refl _) (List.Sublist.subset (.cons _ (.cons _ (.cons_cons _ (.cons_cons _ (.cons _ (.cons_cons _ (.refl _))))))))
         refine ⟨hH19435, ?_⟩
         refine d_all (rs := [13]) (by kernel_rfl) (by simp) (fun j hj o ho => ?_)
         obtain rfl : j = 13 := by simpa using hj
         cases ho
         refine wl_store_box ty190 hS19434 rfl (v := .agg #[.int .i64 _, .slice _ _ _]) rfl (vs := [.int .i64 _, .slice _ _ _]) rfl rfl rfl (.there .here) (cs' := [.int .i64 _, .slice _ _ _]) rfl rfl ?_
         intro w19436 hS19437
         refine wl_nil ?_
         have hH19438 := hS19437.toHeld.mono (Mem.le_refl _) (List.Sublist.subset (.cons _ (.cons _ (.cons_cons _ (.cons_cons _ (.cons _ (.cons_cons _ (.refl _))))))))
         refine ⟨hH19438, ?_⟩
         refine d_end (by kernel_rfl) ?_
         have hS19439 := hS19437.front (.there (.there (.there (.there (.there .here)))))
         have hS19440 := hS19439.front (.there (.there (.there (.there (.there .here)))))
         have hS19441 := hS19440.front (.there (.there (.there (.there (.there .here)))))
         have hS19442 := hS19441.front (.there (.there (.there (.there (.there .here)))))
         have hS19443 := hS19442.front (.there (.there (.there (.there .here))))
         have hS19444 := hS19443.front (.there (.there (.there (.there (.there .here)))))
         exact ⟨_, _, _, _, _, _, _, _, hr19034, hr19026, hS19444, rfl, rfl, rfl, rfl, rfl, rfl, rfl, rfl, rfl, rfl, rfl, rfl, rfl, rfl⟩
        ·cases ho
         refine wl_store_box ty190 hS19429 rfl (v := .agg #[.int .i64 _, .slice _ _ _]) rfl (vs := [.int .i64 _, .slice _ _ _]) rfl rfl rfl .here (cs' := [.int .i64 _, .slice _ _ _]) rfl rfl ?_
         intro w19445 hS19446
         refine wl_nil ?_
         have hH19447 := hS19446.toHeld.mono (Mem.le_refl _) (List.Sublist.subset (.cons _ (.cons _ (.cons_cons _ (.cons_cons _ (.cons _ (.cons_cons _ (.refl _))))))))
         refine ⟨hH19447, ?_⟩
         refine d_all (rs := [9]) (by kernel_rfl) (by simp) (fun j hj o ho => ?_)
         obtain rfl : j = 9 := by simpa using hj
         cases ho
         refine wl_h hS19446.toHeld (r_row ty190 (k := 0) (i := y18914.toNat) (.there (.there (.there (.there .here)))) rfl rfl (row_room hrc18889 hx18980) hes19029 rfl (v := .agg #[.int .i64 _, .slice _ _ _]) rfl) <| wl_nil ?_
         have hH19448 := hS19446.toHeld.mono (Mem.le_refl _) (List.Sublist.subset (.cons _ (.cons _ (.cons_cons _ (.cons_cons _ (.cons _ (.cons_cons _ (.refl _))))))))
         refine ⟨hH19448, ?_⟩
         refine d_all (rs := [13]) (by kernel_rfl) (by simp) (fun j hj o ho => ?_)
         obtain rfl : j = 13 := by simpa using hj
         cases ho
         refine wl_store_box ty190 hS19446 rfl (v := .agg #[.int .i64 _, .slice _ _ _]) rfl (vs := [.int .i64 _, .slice _ _ _]) rfl rfl rfl (.there .here) (cs' := [.int .i64 _, .slice _ _ _]) rfl rfl ?_
         intro w19449 hS19450
         refine wl_nil ?_
         have hH19451 := hS19450.toHeld.mono (Mem.le_refl _) (List.Sublist.subset (.cons _ (.cons _ (.cons_cons _ (.cons_cons _ (.cons _ (.cons_cons _ (.refl _))))))))
         refine ⟨hH19451, ?_⟩
         refine d_end (by kernel_rfl) ?_
         have hS19452 := hS19450.front (.there (.there (.there (.there (.there .here)))))
         have hS19453 := hS19452.front (.there (.there (.there (.there (.there .here)))))
         have hS19454 := hS19453.front (.there (.there (.there (.there (.there .here)))))
         have hS19455 := hS19454.front (.there (.there (.there (.there (.there .here)))))
         have hS19456 := hS19455.front (.there (.there (.there (.there .here))))
         have hS19457 := hS19456.front (.there (.there (.there (.there (.there .here)))))
         exact ⟨_, _, _, _, _, _, _, _, hr19034, hr19026, hS19457, rfl, rfl, rfl, rfl, rfl, rfl, rfl, rfl, rfl, rfl, rfl, rfl, rfl, rfl⟩
       ·cases ho
        refine wl_h hS19429.toHeld (r_row ty190 (k := 0) (i := y18914.toNat) (.there (.there (.there (.there .here)))) rfl rfl (row_room hrc18889 hx18980) hes19029 rfl (v := .agg #[.int .i64 _, .slice _ _ _]) rfl) <| wl_nil ?_
        have hH19458 := hS19429.toHeld.mono (Mem.le_refl _) (List.Sublist.subset (.cons _ (.cons _ (.cons_cons _ (.cons_cons _ (.cons _ (.cons_cons _ (.refl _))))))))
        refine ⟨hH19458, ?_⟩
        refine d_all (rs := [4]) (by kernel_rfl) (by simp) (fun j hj o ho => ?_)
        obtain rfl : j = 4 := by simpa using hj
        cases ho
        refine wl_h hS19429.toHeld (r_row ty190 (k := 0) (i := y18910.toNat) (.there (.there (.there (.there .here)))) rfl rfl (row_room hrc18889 hx18967) hes19021 rfl (v := .agg #[.int .i64 _, .slice _ _ _]) rfl) <| wl_nil ?_
        have hH19459 := hS19429.toHeld.mono (Mem.le_refl _) (List.Sublist.subset (.cons _ (.cons _ (.cons_cons _ (.cons_cons _ (.cons _ (.cons_cons _ (.refl _))))))))
        refine ⟨hH19459, ?_⟩
        refine d_all (rs := [12]) (by kernel_rfl) (by simp) (fun j hj o ho => ?_)
        obtain rfl : j = 12 := by simpa using hj
        cases ho
        refine wl_store_box ty190 hS19429 rfl (v := .agg #[.int .i64 _, .slice _ _ _]) rfl (vs := [.int .i64 _, .slice _ _ _]) rfl rfl rfl .here (cs' := [.int .i64 _, .slice _ _ _]) rfl rfl ?_
        intro w19460 hS19461
        refine wl_nil ?_
        have hH19462 := hS19461.toHeld.mono (Mem.le_refl _) (List.Sublist.subset (.cons _ (.cons _ (.cons_cons _ (.cons_cons _ (.cons _ (.cons_cons _ (.refl _))))))))
        refine ⟨hH19462, ?_⟩
        refine d_all (rs := [13]) (by kernel_rfl) (by simp) (fun j hj o ho => ?_)
        obtain rfl : j = 13 := by simpa using hj
        cases ho
        refine wl_store_box ty190 hS19461 rfl (v := .agg #[.int .i64 _, .slice _ _ _]) rfl (vs := [.int .i64 _, .slice _ _ _]) rfl rfl rfl (.there .here) (cs' := [.int .i64 _, .slice _ _ _]) rfl rfl ?_
        intro w19463 hS19464
        refine wl_nil ?_
        have hH19465 := hS19464.toHeld.mono (Mem.le_refl _) (List.Sublist.subset (.cons _ (.cons _ (.cons_cons _ (.cons_cons _ (.cons _ (.cons_cons _ (.refl _))))))))
        refine ⟨hH19465, ?_⟩
        refine d_end (by kernel_rfl) ?_
        have hS19466 := hS19464.front (.there (.there (.there (.there (.there .here)))))
        have hS19467 := hS19466.front (.there (.there (.there (.there (.there .here)))))
        have hS19468 := hS19467.front (.there (.there (.there (.there (.there .here)))))
        have hS19469 := hS19468.front (.there (.there (.there (.there (.there .here)))))
        have hS19470 := hS19469.front (.there (.there (.there (.there .here))))
        have hS19471 := hS19470.front (.there (.there (.there (.there (.there .here)))))
        exact ⟨_, _, _, _, _, _, _, _, hr19034, hr19026, hS19471, rfl, rfl, rfl, rfl, rfl, rfl, rfl, rfl, rfl, rfl, rfl, rfl, rfl, rfl⟩
    ·rintro f19487 w19488 ⟨a19007, n19008, c19009, b19011, a19012, n19013, c19014, b19016, ho19010, ho19015, hS19472, e19473, e19474, e19475, e19476, e19477, e19478, e19479, e19480, e19481, e19482, e19483, e19484, e19485, e19486⟩
     obtain rfl := (ROp.rsl ho19010).1
     obtain rfl := (ROp.rsl ho19015).1
     refine c_know (t := 2) e19473 <| c_know (t := 5) e19474 <| c_know (t := 6) e19475 <| c_know (t := 7) e19476 <| c_know (t := 9) e19477 ?_
     refine c_know (t := 10) e19478 <| c_know (t := 11) e19479 <| c_know (t := 25) e19480 <| c_know (t := 26) e19481 <| c_know (t := 29) e19482 ?_
     refine c_know (t := 30) e19483 <| c_know (t := 31) e19484 <| c_know (t := 46) e19485 <| c_know (t := 47) e19486 ?_
     clear e19473 e19474 e19475 e19476 e19477 e19478 e19479 e19480 e19481 e19482 e19483 e19484 e19485 e19486
     refine c_seq <| c_region <| wl_h hS19472.toHeld (r_fieldAddr fld190_1 (b := _) (o := _) rfl) <| wl_h hS19472.toHeld (r_box ty26 (k := 1) (.there .here) rfl rfl rfl (v := .slice _ _ _) rfl) <| wl_h hS19472.toHeld (r_nil_neqO Tryz.underlying26 rfl rfl (ROp.isSome ho19015)) ?_
     refine wl_h hS19472.toHeld (r_move (v := .bool _) rfl) <| wl_split rfl (c := _) (t := 63) (fun h19489 => ?_) (fun h19489 => ?_)
     ·replace hM := bif_t h19489 hM
      refine wl_on (t := 63) rfl rfl ?_
      refine wl_h hS19472.toHeld (r_fieldAddr fld190_1 (b := _) (o := _) rfl) <| wl_on (t := 63) rfl rfl ?_
      refine wl_h hS19472.toHeld (r_box ty26 (k := 1) .here rfl rfl rfl (v := .slice _ _ _) rfl) <| wl_on (t := 63) rfl rfl ?_
      refine wl_h hS19472.toHeld (r_nil_eqlO Tryz.underlying26 rfl rfl (ROp.isNone ho19010)) <| wl_on (t := 63) rfl rfl ?_
      refine wl_h hS19472.toHeld (r_move (v := .bool _) rfl) <| wl_split rfl (c := _) (t := 67) (fun h19490 => ?_) (fun h19490 => ?_)
      ·replace hM := bif_t h19490 hM
       refine wl_off (t := 67) (b := true) rfl rfl rfl ?_
       refine wl_off (t := 67) (b := true) rfl rfl rfl ?_
       refine wl_off (t := 67) (b := true) rfl rfl rfl ?_
       refine wl_off (t := 67) (b := true) rfl rfl rfl ?_
       refine wl_off (t := 67) (b := true) rfl rfl rfl ?_
       refine wl_off (t := 67) (b := true) rfl rfl rfl ?_
       refine wl_off (t := 67) (b := true) rfl rfl rfl ?_
       refine wl_off (t := 67) (b := true) rfl rfl rfl ?_
       refine wl_on (t := 63) rfl rfl ?_
       refine wl_h hS19472.toHeld (r_pick_t rfl (v := .bool _) rfl) <| wl_h hS19472.toHeld (r_pick_t rfl (v := .bool _) rfl) <| wl_nil <| c_true rfl <| c_seq <| c_region <| wl_h hS19472.toHeld (r_fieldAddr fld190_1 (b := _) (o := _) rfl) ?_
       refine wl_h hS19472.toHeld (r_box ty26 (k := 1) (.there .here) rfl rfl rfl (v := .slice _ _ _) rfl) ?_
       have hr19491 := ROp.rsl ho19015
       obtain ⟨r19492, hq19493, hM⟩ := bnd_ok hM
       refine wl_call ent17 (vals := [.slice _ _ _]) rfl (cg17 hS19472 hr19491 hq19493) ?_
       rintro _ w19501 ⟨a19495, n19496, c19497, cs19498, rfl, rfl, hrc19499, hS19502⟩
       refine wl_h hS19502.toHeld (r_assign (v := .slice _ _ _) rfl) <| wl_nil <| c_seq <| c_region <| wl_h hS19502.toHeld (r_move (v := .slice _ _ _) rfl) ?_
       refine wl_h hS19502.toHeld (r_move (v := .int .i64 _) rfl) ?_
       obtain ⟨x19503, hx19504, h19505, h19506, hM⟩ := getK_ok hM
       obtain ⟨b19507, rfl⟩ := row_some (hS19502.toHeld.own .here) hrc19499 (by decide) h19505 h19506
       obtain ⟨es19508, hes19509, hR19510⟩ := row_read hrc19499 hx19504
       obtain rfl := hR19510
       refine wl_h hS19502.toHeld (r_indexAddr Tryz.underlying26 ty3 (b := _) (o := _) (n := _) (c := _) (i := x17393) rfl rfl h19505 (row_lt (hS19502.toHeld.own .here) hrc19499 (by decide) h19506)) <| wl_h hS19502.toHeld (r_row ty3 (k := 0) (i := x17393.toNat) .here rfl rfl (row_room hrc19499 hx19504) hes19509 rfl (v := .int .i64 _) rfl) ?_
       obtain ⟨hc19511, hM⟩ := chk_ok hM
       refine wl_h hS19502.toHeld (r_add (a := _) (b := _) rfl rfl (ok_lo hc19511) (ok_hi hc19511)) ?_
       obtain ⟨x19512, hx19513, h19514, h19515, hM⟩ := getK_ok hM
       obtain ⟨es19516, hes19517, hR19518⟩ := row_read hrc19499 hx19513
       obtain rfl := hR19518
       refine wl_h hS19502.toHeld (r_indexAddr Tryz.underlying26 ty3 (b := _) (o := _) (n := _) (c := _) (i := x17393) rfl rfl h19514 (row_lt (hS19502.toHeld.own .here) hrc19499 (by decide) h19515)) <| wl_store_row ty3 hS19502 rfl (v := .int .i64 _) rfl (vs := [.int .i64 _]) rfl rfl rfl .here (Nat.le_trans (by simp only [Nat.zero_add]; omega) (row_room hrc19499 hx19513)) ?_
       intro w19519 hS19520
       have hrc19521 := RCs.seti hrc19499 hx19513 (vs := [.int .i64 (x19503 + 1)]) (y := x19503 + 1) rfl rfl
       generalize spl cs19498 (0 + x17393.toNat * 1) [.int .i64 (x19503 + 1)] = cs19522 at hS19520 hrc19521
       refine wl_nil <| c_region <| wl_h hS19520.toHeld (r_move (v := .slice _ _ _) rfl) <| wl_h hS19520.toHeld (r_indexAddr_arr Tryz.underlying49 ty3 (n := 2) (b := _) (o := _) (i := 1) rfl rfl (by decide) (by decide)) <| wl_h hS19520.toHeld (r_box ty3 (k := 1) (.there (.there (.there .here))) rfl rfl rfl (v := .int .i64 _) rfl) ?_
       refine wl_h hS19520.toHeld (r_fieldAddr fld190_0 (b := _) (o := _) rfl) <| wl_h hS19520.toHeld (r_box ty3 (k := 0) (.there (.there .here)) rfl rfl rfl (v := .int .i64 _) rfl) <| wl_h hS19520.toHeld (r_fieldAddr fld47_2 (b := _) (o := _) rfl) <| wl_h hS19520.toHeld (r_box ty3 (k := 2) (.there (.there (.there (.there .here)))) rfl rfl rfl (v := .int .i64 _) rfl) ?_
       obtain ⟨hc19523, hM⟩ := chk_ok hM
       refine wl_h hS19520.toHeld (r_add (a := _) (b := _) rfl rfl (ok_lo hc19523) (ok_hi hc19523)) <| wl_h hS19520.toHeld (r_move (v := .slice _ _ _) rfl) <| wl_h hS19520.toHeld (r_build ty190 st190 (ps := [(0, [.int .i64 _]), (1, [.slice _ _ _])]) rfl rfl (cs := [.int .i64 _, .slice _ _ _]) rfl) ?_
       obtain ⟨x19524, hx19525, h19526, h19527, hM⟩ := getK_ok hM
       obtain ⟨b19528, rfl⟩ := row_some (hS19520.toHeld.own (.there (.there (.there (.there (.there .here)))))) hrc18889 (by decide) h19526 h19527
       obtain ⟨es19529, hes19530, hR19531⟩ := row_read hrc18889 hx19525
       have hk19536 := hR19531
       obtain ⟨a19532, n19533, c19534, rfl, hr19535⟩ := hR19531
       obtain rfl := (ROp.rsl hr19535).1
       refine wl_h hS19520.toHeld (r_indexAddr Tryz.underlying185 ty190 (b := _) (o := _) (n := _) (c := _) (i := y18914) rfl rfl h19526 (row_lt (hS19520.toHeld.own (.there (.there (.there (.there (.there .here)))))) hrc18889 (by decide) h19527)) ?_
       obtain ⟨m19537, hm19538, hS19539, hr19540⟩ := hS19520.freezeR .here hrc19521 RInt.mono (by decide)
       have le19542 := Mem.le_trans le18878 hm19538
       have le19543 := Mem.le_trans le18879 hm19538
       have le19544 := Mem.le_trans le18880 hm19538
       have le19545 := Mem.le_trans le18881 hm19538
       have le19546 := hm19538
       replace hk8 := RRound.mono _ _ _ _ hk8 hm19538
       replace hr7 := RSl.mono RStreet.mono hr7 hm19538
       replace hrc18 := RCs.mono RWayR.mono hrc18 hm19538
       replace hrc24 := RCs.mono RInt.mono hrc24 hm19538
       replace hk36 := RWayR.mono _ _ _ _ hk36 hm19538
       replace hr35 := ROp.mono RInt.mono hr35 hm19538
       replace hr40 := RSl.mono RInt.mono hr40 hm19538
       replace ho45 := ROp.mono RInt.mono ho45 hm19538
       replace hrc47 := RCs.mono RWayR.mono hrc47 hm19538
       replace hrc12946 := RCs.mono RWayR.mono hrc12946 hm19538
       replace hrc17400 := RCs.mono RWayR.mono hrc17400 hm19538
       replace hI17420 := Imm.mono hI17420 hm19538
       replace hrc18889 := RCs.mono RWayR.mono hrc18889 hm19538
       replace ho19010 := ROp.mono RInt.mono ho19010 hm19538
       replace ho19015 := ROp.mono RInt.mono ho19015 hm19538
       replace hr19491 := RSl.mono RInt.mono hr19491 hm19538
       replace hrc19499 := RCs.mono RInt.mono hrc19499 hm19538
       replace hrc19521 := RCs.mono RInt.mono hrc19521 hm19538
       replace hk19536 := RWayR.mono _ _ _ _ hk19536 hm19538
       replace hr19535 := ROp.mono RInt.mono hr19535 hm19538
       obtain ⟨hc19548, hM⟩ := chk_ok hM
       have ho19549 := ROp.some hr19540 hc19548
       refine wl_store_row ty190 hS19539 rfl (v := .agg #[.int .i64 _, .slice _ _ _]) rfl (vs := [.int .i64 _, .slice _ _ _]) rfl rfl rfl (.there (.there (.there (.there .here)))) (Nat.le_trans (by simp only [Nat.zero_add]; omega) (row_room hrc18889 hx19525)) ?_
       intro w19547 hS19550
       have hrc19551 := RCs.seti hrc18889 hx19525 (vs := [.int .i64 (x18966.length + x17413.length), .slice (some ⟨b19507, 0, none⟩) r19492.length c19497]) (y := (⟨x18966.length + x17413.length, (some ((r19492.set x17393.toNat (x19503 + 1)) : List Int))⟩ : WayR)) rfl ⟨_, _, _, rfl, ho19549⟩
       generalize spl cs18887 (0 + y18914.toNat * 2) [.int .i64 (x18966.length + x17413.length), .slice (some ⟨b19507, 0, none⟩) r19492.length c19497] = cs19552 at hS19550 hrc19551
       refine wl_nil <| c_nil <| q_norm <| c_region ?_
       obtain ⟨hc19553, hM⟩ := chk_ok hM
       refine wl_h hS19550.toHeld (r_add (a := _) (b := _) rfl rfl (ok_lo hc19553) (ok_hi hc19553)) <| wl_h hS19550.toHeld (r_move (v := .int .i64 _) rfl) <| wl_nil <| c_nil <| q_loop ?_
       have hS19554 := hS19550.weaken (.cons _ (.cons _ (.cons _ (.cons_cons _ (.cons_cons _ (.cons_cons _ (.refl _)))))))
       exact ⟨k_2, Nat.lt_succ_self _, x18882 + 1, (l18883.set y18914.toNat (⟨x18966.length + x17413.length, (some ((r19492.set x17393.toNat (x19503 + 1)) : List Int))⟩ : WayR)), m19537, (some ⟨b19528, 0, none⟩), l18883.length, c18886, cs19552, hM, le19545, row_n (hS19554.toHeld.own (.there .here)) hrc19551 (by decide), hrc19551, hS19554, rfl, rfl, rfl, rfl, rfl, rfl, rfl, rfl, rfl, rfl, rfl⟩
      ·replace hM := bif_f h19490 hM
       refine wl_on (t := 67) rfl rfl ?_
       refine wl_h hS19472.toHeld (r_fieldAddr fld190_0 (b := _) (o := _) rfl) <| wl_on (t := 67) rfl rfl ?_
       refine wl_h hS19472.toHeld (r_box ty3 (k := 0) (.there .here) rfl rfl rfl (v := .int .i64 _) rfl) <| wl_on (t := 67) rfl rfl ?_
       refine wl_h hS19472.toHeld (r_fieldAddr fld47_2 (b := _) (o := _) rfl) <| wl_on (t := 67) rfl rfl ?_
       refine wl_h hS19472.toHeld (r_box ty3 (k := 2) (.there (.there (.there .here))) rfl rfl rfl (v := .int .i64 _) rfl) <| wl_on (t := 67) rfl rfl ?_
       obtain ⟨hc19555, hM⟩ := chk_ok hM
       refine wl_h hS19472.toHeld (r_add (a := _) (b := _) rfl rfl (ok_lo hc19555) (ok_hi hc19555)) <| wl_on (t := 67) rfl rfl ?_
       refine wl_h hS19472.toHeld (r_fieldAddr fld190_0 (b := _) (o := _) rfl) <| wl_on (t := 67) rfl rfl ?_
       refine wl_h hS19472.toHeld (r_box ty3 (k := 0) .here rfl rfl rfl (v := .int .i64 _) rfl) <| wl_on (t := 67) rfl rfl ?_
       refine wl_h hS19472.toHeld (r_lss (a := _) (b := _) rfl rfl) <| wl_on (t := 63) rfl rfl ?_
       refine wl_h hS19472.toHeld (r_pick_f rfl (v := .bool _) rfl) <| wl_h hS19472.toHeld (r_pick_t rfl (v := .bool _) rfl) <| wl_nil <| c_cond (c := _) rfl (fun h19556 => ?_) (fun h19556 => ?_)
       ·replace hM := bif_t h19556 hM
        refine c_seq <| c_region <| wl_h hS19472.toHeld (r_fieldAddr fld190_1 (b := _) (o := _) rfl) <| wl_h hS19472.toHeld (r_box ty26 (k := 1) (.there .here) rfl rfl rfl (v := .slice _ _ _) rfl) ?_
        have hr19557 := ROp.rsl ho19015
        obtain ⟨r19558, hq19559, hM⟩ := bnd_ok hM
        refine wl_call ent17 (vals := [.slice _ _ _]) rfl (cg17 hS19472 hr19557 hq19559) ?_
        rintro _ w19567 ⟨a19561, n19562, c19563, cs19564, rfl, rfl, hrc19565, hS19568⟩
        refine wl_h hS19568.toHeld (r_assign (v := .slice _ _ _) rfl) <| wl_nil <| c_seq <| c_region <| wl_h hS19568.toHeld (r_move (v := .slice _ _ _) rfl) ?_
        refine wl_h hS19568.toHeld (r_move (v := .int .i64 _) rfl) ?_
        obtain ⟨x19569, hx19570, h19571, h19572, hM⟩ := getK_ok hM
        obtain ⟨b19573, rfl⟩ := row_some (hS19568.toHeld.own .here) hrc19565 (by decide) h19571 h19572
        obtain ⟨es19574, hes19575, hR19576⟩ := row_read hrc19565 hx19570
        obtain rfl := hR19576
        refine wl_h hS19568.toHeld (r_indexAddr Tryz.underlying26 ty3 (b := _) (o := _) (n := _) (c := _) (i := x17393) rfl rfl h19571 (row_lt (hS19568.toHeld.own .here) hrc19565 (by decide) h19572)) <| wl_h hS19568.toHeld (r_row ty3 (k := 0) (i := x17393.toNat) .here rfl rfl (row_room hrc19565 hx19570) hes19575 rfl (v := .int .i64 _) rfl) ?_
        obtain ⟨hc19577, hM⟩ := chk_ok hM
        refine wl_h hS19568.toHeld (r_add (a := _) (b := _) rfl rfl (ok_lo hc19577) (ok_hi hc19577)) ?_
        obtain ⟨x19578, hx19579, h19580, h19581, hM⟩ := getK_ok hM
        obtain ⟨es19582, hes19583, hR19584⟩ := row_read hrc19565 hx19579
        obtain rfl := hR19584
        refine wl_h hS19568.toHeld (r_indexAddr Tryz.underlying26 ty3 (b := _) (o := _) (n := _) (c := _) (i := x17393) rfl rfl h19580 (row_lt (hS19568.toHeld.own .here) hrc19565 (by decide) h19581)) <| wl_store_row ty3 hS19568 rfl (v := .int .i64 _) rfl (vs := [.int .i64 _]) rfl rfl rfl .here (Nat.le_trans (by simp only [Nat.zero_add]; omega) (row_room hrc19565 hx19579)) ?_
        intro w19585 hS19586
        have hrc19587 := RCs.seti hrc19565 hx19579 (vs := [.int .i64 (x19569 + 1)]) (y := x19569 + 1) rfl rfl
        generalize spl cs19564 (0 + x17393.toNat * 1) [.int .i64 (x19569 + 1)] = cs19588 at hS19586 hrc19587
        refine wl_nil <| c_region <| wl_h hS19586.toHeld (r_move (v := .slice _ _ _) rfl) <| wl_h hS19586.toHeld (r_indexAddr_arr Tryz.underlying49 ty3 (n := 2) (b := _) (o := _) (i := 1) rfl rfl (by decide) (by decide)) <| wl_h hS19586.toHeld (r_box ty3 (k := 1) (.there (.there (.there .here))) rfl rfl rfl (v := .int .i64 _) rfl) ?_
        refine wl_h hS19586.toHeld (r_fieldAddr fld190_0 (b := _) (o := _) rfl) <| wl_h hS19586.toHeld (r_box ty3 (k := 0) (.there (.there .here)) rfl rfl rfl (v := .int .i64 _) rfl) <| wl_h hS19586.toHeld (r_fieldAddr fld47_2 (b := _) (o := _) rfl) <| wl_h hS19586.toHeld (r_box ty3 (k := 2) (.there (.there (.there (.there .here)))) rfl rfl rfl (v := .int .i64 _) rfl) ?_
        obtain ⟨hc19589, hM⟩ := chk_ok hM
        refine wl_h hS19586.toHeld (r_add (a := _) (b := _) rfl rfl (ok_lo hc19589) (ok_hi hc19589)) <| wl_h hS19586.toHeld (r_move (v := .slice _ _ _) rfl) <| wl_h hS19586.toHeld (r_build ty190 st190 (ps := [(0, [.int .i64 _]), (1, [.slice _ _ _])]) rfl rfl (cs := [.int .i64 _, .slice _ _ _]) rfl) ?_
        obtain ⟨x19590, hx19591, h19592, h19593, hM⟩ := getK_ok hM
        obtain ⟨b19594, rfl⟩ := row_some (hS19586.toHeld.own (.there (.there (.there (.there (.there .here)))))) hrc18889 (by decide) h19592 h19593
        obtain ⟨es19595, hes19596, hR19597⟩ := row_read hrc18889 hx19591
        have hk19602 := hR19597
        obtain ⟨a19598, n19599, c19600, rfl, hr19601⟩ := hR19597
        obtain rfl := (ROp.rsl hr19601).1
        refine wl_h hS19586.toHeld (r_indexAddr Tryz.underlying185 ty190 (b := _) (o := _) (n := _) (c := _) (i := y18914) rfl rfl h19592 (row_lt (hS19586.toHeld.own (.there (.there (.there (.there (.there .here)))))) hrc18889 (by decide) h19593)) ?_
        obtain ⟨m19603, hm19604, hS19605, hr19606⟩ := hS19586.freezeR .here hrc19587 RInt.mono (by decide)
        have le19608 := Mem.le_trans le18878 hm19604
        have le19609 := Mem.le_trans le18879 hm19604
        have le19610 := Mem.le_trans le18880 hm19604
        have le19611 := Mem.le_trans le18881 hm19604
        have le19612 := hm19604
        replace hk8 := RRound.mono _ _ _ _ hk8 hm19604
        replace hr7 := RSl.mono RStreet.mono hr7 hm19604
        replace hrc18 := RCs.mono RWayR.mono hrc18 hm19604
        replace hrc24 := RCs.mono RInt.mono hrc24 hm19604
        replace hk36 := RWayR.mono _ _ _ _ hk36 hm19604
        replace hr35 := ROp.mono RInt.mono hr35 hm19604
        replace hr40 := RSl.mono RInt.mono hr40 hm19604
        replace ho45 := ROp.mono RInt.mono ho45 hm19604
        replace hrc47 := RCs.mono RWayR.mono hrc47 hm19604
        replace hrc12946 := RCs.mono RWayR.mono hrc12946 hm19604
        replace hrc17400 := RCs.mono RWayR.mono hrc17400 hm19604
        replace hI17420 := Imm.mono hI17420 hm19604
        replace hrc18889 := RCs.mono RWayR.mono hrc18889 hm19604
        replace ho19010 := ROp.mono RInt.mono ho19010 hm19604
        replace ho19015 := ROp.mono RInt.mono ho19015 hm19604
        replace hr19557 := RSl.mono RInt.mono hr19557 hm19604
        replace hrc19565 := RCs.mono RInt.mono hrc19565 hm19604
        replace hrc19587 := RCs.mono RInt.mono hrc19587 hm19604
        replace hk19602 := RWayR.mono _ _ _ _ hk19602 hm19604
        replace hr19601 := ROp.mono RInt.mono hr19601 hm19604
        obtain ⟨hc19614, hM⟩ := chk_ok hM
        have ho19615 := ROp.some hr19606 hc19614
        refine wl_store_row ty190 hS19605 rfl (v := .agg #[.int .i64 _, .slice _ _ _]) rfl (vs := [.int .i64 _, .slice _ _ _]) rfl rfl rfl (.there (.there (.there (.there .here)))) (Nat.le_trans (by simp only [Nat.zero_add]; omega) (row_room hrc18889 hx19591)) ?_
        intro w19613 hS19616
        have hrc19617 := RCs.seti hrc18889 hx19591 (vs := [.int .i64 (x18966.length + x17413.length), .slice (some ⟨b19573, 0, none⟩) r19558.length c19563]) (y := (⟨x18966.length + x17413.length, (some ((r19558.set x17393.toNat (x19569 + 1)) : List Int))⟩ : WayR)) rfl ⟨_, _, _, rfl, ho19615⟩
        generalize spl cs18887 (0 + y18914.toNat * 2) [.int .i64 (x18966.length + x17413.length), .slice (some ⟨b19573, 0, none⟩) r19558.length c19563] = cs19618 at hS19616 hrc19617
        refine wl_nil <| c_nil <| q_norm <| c_region ?_
        obtain ⟨hc19619, hM⟩ := chk_ok hM
        refine wl_h hS19616.toHeld (r_add (a := _) (b := _) rfl rfl (ok_lo hc19619) (ok_hi hc19619)) <| wl_h hS19616.toHeld (r_move (v := .int .i64 _) rfl) <| wl_nil <| c_nil <| q_loop ?_
        have hS19620 := hS19616.weaken (.cons _ (.cons _ (.cons _ (.cons_cons _ (.cons_cons _ (.cons_cons _ (.refl _)))))))
        exact ⟨k_2, Nat.lt_succ_self _, x18882 + 1, (l18883.set y18914.toNat (⟨x18966.length + x17413.length, (some ((r19558.set x17393.toNat (x19569 + 1)) : List Int))⟩ : WayR)), m19603, (some ⟨b19594, 0, none⟩), l18883.length, c18886, cs19618, hM, le19611, row_n (hS19620.toHeld.own (.there .here)) hrc19617 (by decide), hrc19617, hS19620, rfl, rfl, rfl, rfl, rfl, rfl, rfl, rfl, rfl, rfl, rfl⟩
       ·replace hM := bif_f h19556 hM
        refine c_skip <| c_nil <| q_norm <| c_region ?_
        obtain ⟨hc19621, hM⟩ := chk_ok hM
        refine wl_h hS19472.toHeld (r_add (a := _) (b := _) rfl rfl (ok_lo hc19621) (ok_hi hc19621)) <| wl_h hS19472.toHeld (r_move (v := .int .i64 _) rfl) <| wl_nil <| c_nil <| q_loop ?_
        have hS19622 := hS19472.weaken (.cons _ (.cons _ (.cons _ (.cons_cons _ (.cons_cons _ (.cons_cons _ (.refl _)))))))
        exact ⟨k_2, Nat.lt_succ_self _, x18882 + 1, l18883, m18876, a18884, l18883.length, c18886, cs18887, hM, le18881, row_n (hS19622.toHeld.own (.there .here)) hrc18889 (by decide), hrc18889, hS19622, rfl, rfl, rfl, rfl, rfl, rfl, rfl, rfl, rfl, rfl, rfl⟩
     ·replace hM := bif_f h19489 hM
      refine wl_off (t := 63) (b := false) rfl rfl rfl ?_
      refine wl_off (t := 63) (b := false) rfl rfl rfl ?_
      refine wl_off (t := 63) (b := false) rfl rfl rfl ?_
      refine wl_off (t := 63) (b := false) rfl rfl rfl ?_
      refine wl_none (t := 67) rfl rfl ?_
      refine wl_none (t := 67) rfl rfl ?_
      refine wl_none (t := 67) rfl rfl ?_
      refine wl_none (t := 67) rfl rfl ?_
      refine wl_none (t := 67) rfl rfl ?_
      refine wl_none (t := 67) rfl rfl ?_
      refine wl_none (t := 67) rfl rfl ?_
      refine wl_none (t := 67) rfl rfl ?_
      refine wl_off (t := 63) (b := false) rfl rfl rfl ?_
      refine wl_h hS19472.toHeld (r_pick_f rfl (v := .bool _) rfl) <| wl_nil <| c_false rfl <| c_skip <| c_nil <| q_norm <| c_region ?_
      obtain ⟨hc19623, hM⟩ := chk_ok hM
      refine wl_h hS19472.toHeld (r_add (a := _) (b := _) rfl rfl (ok_lo hc19623) (ok_hi hc19623)) <| wl_h hS19472.toHeld (r_move (v := .int .i64 _) rfl) <| wl_nil <| c_nil <| q_loop ?_
      have hS19624 := hS19472.weaken (.cons _ (.cons _ (.cons _ (.cons_cons _ (.cons_cons _ (.cons_cons _ (.refl _)))))))
      exact ⟨k_2, Nat.lt_succ_self _, x18882 + 1, l18883, m18876, a18884, l18883.length, c18886, cs18887, hM, le18881, row_n (hS19624.toHeld.own (.there .here)) hrc18889 (by decide), hrc18889, hS19624, rfl, rfl, rfl, rfl, rfl, rfl, rfl, rfl, rfl, rfl, rfl⟩
   ·replace hM := bif_f h18905 hM
    refine c_exit <| q_loopx <| q_hit <| c_nil <| q_norm <| c_region ?_
    obtain ⟨hc19625, hM⟩ := chk_ok hM
    refine wl_h hS18893.toHeld (r_add (a := _) (b := _) rfl rfl (ok_lo hc19625) (ok_hi hc19625)) <| wl_h hS18893.toHeld (r_move (v := .int .i64 _) rfl) <| wl_nil <| c_nil <| q_loop ?_
    have hS19626 := hS18893.weaken (.cons _ (.cons_cons _ (.cons_cons _ (.refl _))))
    exact ⟨k_1, Nat.lt_succ_self _, x17393 + 1, l18883, m18876, a18884, l18883.length, c18886, cs18887, hM, le18880, row_n (hS19626.toHeld.own .here) hrc18889 (by decide), hrc18889, hS19626, rfl, rfl, rfl, rfl, rfl, rfl, rfl⟩
  ·replace hM := bif_f h17412 hM
   refine c_exit <| q_loopx <| q_hit <| c_nil <| q_norm <| c_region ?_
   obtain ⟨hc19627, hM⟩ := chk_ok hM
   refine wl_h hS17404.toHeld (r_add (a := _) (b := _) rfl rfl (ok_lo hc19627) (ok_hi hc19627)) <| wl_h hS17404.toHeld (r_move (v := .int .i64 _) rfl) <| wl_nil <| c_nil <| q_loop ?_
   exact ⟨k_0, Nat.lt_succ_self _, x12939 + 1, l17394, m17388, a17395, l17394.length, c17397, cs17398, hM, le17391, row_n (hS17404.toHeld.own .here) hrc17400 (by decide), hrc17400, hS17404, rfl, rfl, rfl, rfl⟩
 ·replace hM := bif_f h12955 hM
  refine c_exit <| q_loopx <| q_hit <| c_seq <| c_region <| wl_h hS12950.toHeld (r_move (v := .slice _ _ _) rfl) ?_
  refine wl_h hS12950.toHeld (r_assign (v := .slice _ _ _) rfl) <| wl_nil <| c_ret <| ret_tmp (t := 4) rfl (v := .slice _ _ _) rfl ?_
  obtain rfl := some_eq hM
  have hS19628 := hS12950.weaken (.cons_cons _ (.cons _ (.refl _)))
  exact ⟨m12935, a12941, l12940.length, c12943, cs12944, rfl, le12937, row_n (hS19628.toHeld.own .here) hrc12946 (by decide), hrc12946, hS19628⟩

theorem cg122 {m : Mem} {L : List Atom} {w : World} {a1 : Option Addr} {n2 c3 : Nat} {t5 : List Int} {set6 : Int} (hS : St w m L) (hr4 : RSl 1 RInt m a1 n2 c3 t5) {fuel : Nat} {r : Int} (hM : mg122 fuel t5 set6 = some r) : Calls P0 122 [.slice a1 n2 c3, .int .i64 set6].toArray w (Ret fun v w' => v = .int .i64 r ∧ St w' m (L)) := by
 rw [mg122] at hM
 obtain rfl := hr4.1
 refine enter Tryz.func122 rfl Tryz.ntmps122 (Nat.le_of_ble_eq_true rfl) ?_
 refine c_seq <| c_region <| wl_h hS.toHeld (r_assign (v := .int .i64 _) rfl) <| wl_nil <| c_seq <| c_region <| wl_h hS.toHeld (r_move (v := .slice _ _ _) rfl) ?_
 refine wl_h hS.toHeld (r_move (v := .int .i64 _) rfl) ?_
 obtain ⟨x7, hx8, h9, h10, hM⟩ := getK_ok hM
 obtain ⟨b11, o12, rfl⟩ := RSl.elem_a hr4 hx8
 obtain ⟨cs13, hI14, hR15⟩ := RSl.elem_at hr4 hx8
 obtain rfl := hR15
 refine wl_h hS.toHeld (r_indexAddr Tryz.underlying187 ty3 (b := _) (o := _) (n := _) (c := _) (i := set6) rfl rfl h9 (RSl.lt hr4 h10)) <| wl_h hS.toHeld (r_imm ty3 (k := 0) hI14 rfl rfl rfl (v := .int .i64 _) rfl) <| wl_h hS.toHeld (r_assign (v := .int .i64 _) rfl) <| wl_nil <| c_ret <| ret_tmp (t := 4) rfl (v := .int .i64 _) rfl ?_
 obtain rfl := some_eq hM
 exact ⟨rfl, hS⟩

theorem cg80 {m : Mem} {L : List Atom} {w : World} {cs1 : List Value} {r3 : Round} (hS : St w m L) (hx2 : RRound m cs1 r3) {fuel : Nat} {r : (List Int) × Int} (hM : mg80 fuel r3 = some r) : Calls P0 80 [.agg cs1.toArray].toArray w (Ret fun v w' => ∃ (a0 : Option Addr) (n0 : Nat) (c0 : Nat) (cs0 : List Value), v = .tuple #[.slice a0 n0 c0, .int .i64 r.2] ∧ n0 = r.1.length ∧ RCs 1 RInt m cs0 r.1 ∧ St w' m (.row (.slice a0 n0 c0) 3 1 cs0 :: L)) := by
 rw [mg80] at hM
 have hk8 := hx2
 obtain ⟨a4, n5, c6, rfl, hr7⟩ := hx2
 obtain rfl := hr7.1
 refine enter Tryz.func80 rfl Tryz.ntmps80 (Nat.le_of_ble_eq_true rfl) ?_
 refine c_seq <| c_region <| wl_box hS (v := .agg #[.int .i64 _, .slice _ _ _]) rfl (cs := [.int .i64 _, .slice _ _ _]) rfl ?_
 intro b9 w10 hS11
 refine wl_h hS11.toHeld (r_assign (v := .slice _ _ _) rfl) <| wl_h hS11.toHeld (r_assign (v := .int .i64 _) rfl) <| wl_nil <| c_seq <| c_region <| wl_h hS11.toHeld (r_box ty41 (k := 0) .here rfl rfl rfl (v := .agg #[.int .i64 _, .slice _ _ _]) rfl) ?_
 obtain ⟨r12, hq13, hM⟩ := bnd_ok hM
 refine wl_call ent101 (vals := [.agg #[.int .i64 _, .slice _ _ _]]) rfl (cg101 hS11 hk8 hq13) ?_
 rintro _ w21 ⟨a15, n16, c17, cs18, rfl, rfl, hrc19, hS22⟩
 refine wl_h hS22.toHeld (r_assign (v := .slice _ _ _) rfl) <| wl_nil <| c_seq <| c_region <| wl_h hS22.toHeld (r_assign (v := .slice _ _ _) rfl) ?_
 refine wl_nil <| c_seq <| c_seq <| c_region <| wl_h hS22.toHeld (r_move (v := .slice _ _ _) rfl) ?_
 refine wl_h hS22.toHeld (r_len Tryz.underlying26 (a := _) (n := _) (c := _) rfl) <| wl_h hS22.toHeld (r_move (v := .int .i64 _) rfl) <| wl_nil <| c_block ?_
 have hS11073 := hS22.nilRow 185 1
 have hrc11074 : RCs 1 (RS 2 RWayR) m [] ([] : List (List WayR)) := RCs.nil
 refine c_loop (fun k f w => ∃ (x11078 : Int) (l11079 : List (List WayR)) (m11075 : Mem) (a11080 : Option Addr) (n11081 : Nat) (c11082 : Nat) (cs11083 : List Value), mg80_l0 fuel r3 r12 k x11078 l11079 = some r ∧ m ≤ m11075 ∧ n11081 = l11079.length ∧ RCs 1 (RS 2 RWayR) m11075 cs11083 l11079 ∧ St w m11075 (.row (.slice a11080 n11081 c11082) 185 1 cs11083 :: .row (.slice a15 r12.length c17) 3 1 cs18 :: .box b9 41 [.int .i64 r3.corners, .slice a4 r3.streets.length c6] :: L) ∧ f 1 = .pointer (some ⟨b9, 0, none⟩) ∧ f 4 = .slice a15 r12.length c17 ∧ f 5 = .slice a11080 n11081 c11082 ∧ f 23 = .slice a15 r12.length c17 ∧ f 24 = .int .i64 ((r12.length : Nat) : Int) ∧ f 25 = .int .i64 x11078) fuel ⟨0, ([] : List (List WayR)), m, none, 0, 0, [], hM, Mem.le_refl _, row_n (hS11073.toHeld.own .here) hrc11074 (by decide), hrc11074, hS11073, rfl, rfl, rfl, rfl, rfl, rfl⟩ ?_
 rintro k_0 f11086 w11087 ⟨x11078, l11079, m11075, a11080, n11081, c11082, cs11083, hM, hm11076, hn11084, hrc11085, hS11089, e11090, e11091, e11092, e11093, e11094, e11095⟩
 replace hk8 := RRound.mono _ _ _ _ hk8 hm11076
 replace hr7 := RSl.mono RStreet.mono hr7 hm11076
 replace hrc19 := RCs.mono RInt.mono hrc19 hm11076
 replace hrc11074 := RCs.mono (RS.mono RWayR.mono) hrc11074 hm11076
 have le11077 := hm11076
 subst hn11084
 refine c_know (t := 1) e11090 <| c_know (t := 4) e11091 <| c_know (t := 5) e11092 <| c_know (t := 23) e11093 <| c_know (t := 24) e11094 ?_
 refine c_know (t := 25) e11095 ?_
 clear e11090 e11091 e11092 e11093 e11094 e11095
 rcases k_0 with _ | k_0
 · exact none_ne hM
 rw [mg80_l0] at hM
 refine c_seq <| c_region <| wl_h hS11089.toHeld (r_lss (a := _) (b := _) rfl rfl) <| wl_nil <| c_seq <| c_cond (c := _) rfl (fun h11096 => ?_) (fun h11096 => ?_)
 ·replace hM := bif_t h11096 hM
  refine c_skip <| c_seq <| c_block <| c_seq <| c_region ?_
  obtain ⟨x11097, hx11098, h11099, h11100, hM⟩ := getK_ok hM
  obtain ⟨b11101, rfl⟩ := row_some (hS11089.toHeld.own (.there .here)) hrc19 (by decide) h11099 h11100
  obtain ⟨es11102, hes11103, hR11104⟩ := row_read hrc19 hx11098
  obtain rfl := hR11104
  refine wl_h hS11089.toHeld (r_indexAddr Tryz.underlying26 ty3 (b := _) (o := _) (n := _) (c := _) (i := x11078) rfl rfl h11099 (row_lt (hS11089.toHeld.own (.there .here)) hrc19 (by decide) h11100)) <| wl_h hS11089.toHeld (r_row ty3 (k := 0) (i := x11078.toNat) (.there .here) rfl rfl (row_room hrc19 hx11098) hes11103 rfl (v := .int .i64 _) rfl) <| wl_h hS11089.toHeld (r_assign (v := .int .i64 _) rfl) <| wl_nil <| c_region <| wl_h hS11089.toHeld (r_move (v := .slice _ _ _) rfl) ?_
  refine wl_h hS11089.toHeld (r_box ty41 (k := 0) (.there (.there .here)) rfl rfl rfl (v := .agg #[.int .i64 _, .slice _ _ _]) rfl) <| wl_h hS11089.toHeld (r_move (v := .int .i64 _) rfl) ?_
  obtain ⟨r11105, hq11106, hM⟩ := bnd_ok hM
  refine wl_call ent120 (vals := [.agg #[.int .i64 _, .slice _ _ _], .int .i64 _]) rfl (cg120 hS11089 hk8 hq11106) ?_
  rintro _ w11115 ⟨m11107, a11109, n11110, c11111, cs11112, rfl, hm11108, rfl, hrc11113, hS11116⟩
  have le11117 := Mem.le_trans le11077 hm11108
  replace hk8 := RRound.mono _ _ _ _ hk8 hm11108
  replace hr7 := RSl.mono RStreet.mono hr7 hm11108
  replace hrc19 := RCs.mono RInt.mono hrc19 hm11108
  replace hrc11074 := RCs.mono (RS.mono RWayR.mono) hrc11074 hm11108
  replace hrc11085 := RCs.mono (RS.mono RWayR.mono) hrc11085 hm11108
  obtain ⟨m11118, hm11119, hS11120, hr11121⟩ := hS11116.freezeR .here hrc11113 RWayR.mono (by decide)
  have le11123 := Mem.le_trans le11117 hm11119
  replace hk8 := RRound.mono _ _ _ _ hk8 hm11119
  replace hr7 := RSl.mono RStreet.mono hr7 hm11119
  replace hrc19 := RCs.mono RInt.mono hrc19 hm11119
  replace hrc11074 := RCs.mono (RS.mono RWayR.mono) hrc11074 hm11119
  replace hrc11085 := RCs.mono (RS.mono RWayR.mono) hrc11085 hm11119
  replace hrc11113 := RCs.mono RWayR.mono hrc11113 hm11119
  refine wl_buildSlice Tryz.underlying184 ty185 rfl (by decide) (by decide) hS11120 (ps := [(0, [.slice _ _ _])]) rfl rfl (cs := [.slice _ _ _]) rfl rfl (by decide) ?_
  intro b11125 w11126 hS11127
  have hrc11128 : RCs 1 (RS 2 RWayR) m11118 [.slice a11109 r11105.length c11111] ([r11105] : List (List WayR)) := (RCs.cons (d := [.slice a11109 r11105.length c11111]) rfl ⟨_, _, _, rfl, hr11121⟩ RCs.nil)
  obtain ⟨hc11129, hM⟩ := chk_ok hM
  refine wl_append_src Tryz.underlying184 ty185 rfl (by decide) hS11127 (a := _) (nn := _) (c := _) rfl (a2 := _) (k2 := _) (c2 := _) rfl (.there .here) (row_src (hS11127.toHeld.own .here) (RCs.allOne RS.one (by decide) hrc11128)) (lim_b hc11129 rfl) (lim_a hc11129) ?_
  intro a11130 c11131 w11132 hS11133
  have hrc11135 := RCs.append hrc11085 hrc11128
  generalize cs11083 ++ [.slice a11109 r11105.length c11111] = cs11136 at hS11133 hrc11135
  have hS11137 := hS11133.weaken (.cons_cons _ (.cons _ (.cons_cons _ (.cons_cons _ (.refl _)))))
  refine wl_h hS11137.toHeld (r_assign (v := .slice _ _ _) rfl) <| wl_nil <| c_nil <| q_norm <| c_region ?_
  obtain ⟨hc11138, hM⟩ := chk_ok hM
  refine wl_h hS11137.toHeld (r_add (a := _) (b := _) rfl rfl (ok_lo hc11138) (ok_hi hc11138)) <| wl_h hS11137.toHeld (r_move (v := .int .i64 _) rfl) <| wl_nil <| c_nil <| q_loop ?_
  exact ⟨k_0, Nat.lt_succ_self _, x11078 + 1, (l11079 ++ [r11105]), m11118, a11130, (l11079.length + 1), c11131, cs11136, hM, le11123, row_n (hS11137.toHeld.own .here) hrc11135 (by decide), hrc11135, hS11137, rfl, rfl, rfl, rfl, rfl, rfl⟩
 ·replace hM := bif_f h11096 hM
  refine c_exit <| q_loopx <| q_hit <| c_seq ?_
  obtain ⟨hc11141, hM⟩ := chk_ok hM
  obtain ⟨hc11142, hM⟩ := chk_ok hM
  obtain ⟨hc11145, hM⟩ := chk_ok hM
  obtain ⟨hc11152, hM⟩ := chk_ok hM
  have hH11169 := (hS11089.weaken (.cons_cons _ (.cons_cons _ (.cons_cons _ (.refl _))))).toHeld
  refine c_drawJ (k := 10) (fun f w => ∃ (a11157 : Option Addr) (n11158 : Nat) (c11159 : Nat) (cs11160 : List Value) (a11163 : Option Addr) (n11164 : Nat) (c11165 : Nat) (cs11166 : List Value), n11158 = ((List.replicate (ishl 1 ((r12.length : Nat) : Int)).toNat 0 : List Int)).length ∧ RCs 1 RInt m11075 cs11160 (List.replicate (ishl 1 ((r12.length : Nat) : Int)).toNat 0 : List Int) ∧ n11164 = ((List.replicate (ishl 1 ((r12.length : Nat) : Int)).toNat 0 : List Int)).length ∧ RCs 1 RInt m11075 cs11166 (List.replicate (ishl 1 ((r12.length : Nat) : Int)).toNat 0 : List Int) ∧ St w m11075 (.row (.slice a11157 n11158 c11159) 3 1 cs11160 :: .row (.slice a11163 n11164 c11165) 3 1 cs11166 :: .row (.slice a11080 l11079.length c11082) 185 1 cs11083 :: .row (.slice a15 r12.length c17) 3 1 cs18 :: .box b9 41 [.int .i64 r3.corners, .slice a4 r3.streets.length c6] :: L) ∧ f 1 = .pointer (some ⟨b9, 0, none⟩) ∧ f 4 = .slice a15 r12.length c17 ∧ f 5 = .slice a11080 l11079.length c11082 ∧ f 8 = .slice a11163 n11164 c11165 ∧ f 9 = .slice a11157 n11158 c11159) (fun w => Held w m11075 (.row (.slice a11080 l11079.length c11082) 185 1 cs11083 :: .row (.slice a15 r12.length c17) 3 1 cs18 :: .box b9 41 [.int .i64 r3.corners, .slice a4 r3.streets.length c6] :: L)) mixed rfl ?_ ?_
  ·replace hH11169 := hH11169.drew1
   have hS11170 := hS11089.drew1
   refine d_v (i := 0) rfl (by kernel_rfl) rfl (r_move (v := .slice _ _ _) rfl) hH11169 ?_
   refine d_v (i := 1) rfl (by kernel_rfl) rfl (r_len Tryz.underlying26 (a := _) (n := _) (c := _) rfl) hH11169 ?_
   refine d_v (i := 2) rfl (by kernel_rfl) rfl (r_shl (a := _) (b := _) rfl rfl hc11141) hH11169 ?_
   refine d_v (i := 4) rfl (by kernel_rfl) rfl (r_move (v := .slice _ _ _) rfl) hH11169 ?_
   refine d_v (i := 5) rfl (by kernel_rfl) rfl (r_len Tryz.underlying26 (a := _) (n := _) (c := _) rfl) hH11169 ?_
   refine d_v (i := 6) rfl (by kernel_rfl) rfl (r_shl (a := _) (b := _) rfl rfl hc11142) hH11169 ?_
   refine d_all (rs := [3, 7]) (by kernel_rfl) (by simp) (fun j hj o ho => ?_)
   simp only [List.mem_cons, List.not_mem_nil, or_false] at hj
   rcases hj with rfl | rfl
   ·cases ho
    refine wl_makeSlice Tryz.underlying187 ty3 rfl (by decide) hS11170 (l := _) (c := _) rfl rfl (mk_0 hc11145) (mk_1 hc11145) (mk_2 hc11145 (by decide)) (mk_3 hc11145) ?_
    intro b11171 w11172 hS11173
    have hrc11175 : RCs 1 RInt m11075 (reps [.int .i64 0] (ishl 1 ((r12.length : Nat) : Int)).toNat) ((List.replicate (ishl 1 ((r12.length : Nat) : Int)).toNat 0 : List Int) : List Int) := RCs.reps rfl rfl _
    refine wl_nil ?_
    have hH11176 := hS11173.toHeld.mono (Mem.le_refl _) (List.Sublist.subset (.cons _ (.cons_cons _ (.cons_cons _ (.cons_cons _ (.refl _))))))
    refine ⟨hH11176, ?_⟩
    refine d_v (i := 8) rfl (by kernel_rfl) rfl (r_assign (v := .slice _ _ _) rfl) hH11176 ?_
    refine d_all (rs := [7]) (by kernel_rfl) (by simp) (fun j hj o ho => ?_)
    obtain rfl : j = 7 := by simpa using hj
    cases ho
    refine wl_makeSlice Tryz.underlying26 ty3 rfl (by decide) hS11173 (l := _) (c := _) rfl rfl (mk_0 hc11152) (mk_1 hc11152) (mk_2 hc11152 (by decide)) (mk_3 hc11152) ?_
    intro b11177 w11178 hS11179
    have hrc11181 : RCs 1 RInt m11075 (reps [.int .i64 0] (ishl 1 ((r12.length : Nat) : Int)).toNat) ((List.replicate (ishl 1 ((r12.length : Nat) : Int)).toNat 0 : List Int) : List Int) := RCs.reps rfl rfl _
    refine wl_nil ?_
    have hH11182 := hS11179.toHeld.mono (Mem.le_refl _) (List.Sublist.subset (.cons _ (.cons _ (.cons_cons _ (.cons_cons _ (.cons_cons _ (.refl _)))))))
    refine ⟨hH11182, ?_⟩
    refine d_v (i := 9) rfl (by kernel_rfl) rfl (r_assign (v := .slice _ _ _) rfl) hH11182 ?_
    refine d_end (by kernel_rfl) ?_
    exact ⟨_, _, _, _, _, _, _, _, row_n (hS11179.toHeld.own .here) hrc11181 (by decide), hrc11181, row_n (hS11179.toHeld.own (.there .here)) hrc11175 (by decide), hrc11175, hS11179, rfl, rfl, rfl, rfl, rfl⟩
   ·cases ho
    refine wl_makeSlice Tryz.underlying26 ty3 rfl (by decide) hS11170 (l := _) (c := _) rfl rfl (mk_0 hc11152) (mk_1 hc11152) (mk_2 hc11152 (by decide)) (mk_3 hc11152) ?_
    intro b11183 w11184 hS11185
    have hrc11187 : RCs 1 RInt m11075 (reps [.int .i64 0] (ishl 1 ((r12.length : Nat) : Int)).toNat) ((List.replicate (ishl 1 ((r12.length : Nat) : Int)).toNat 0 : List Int) : List Int) := RCs.reps rfl rfl _
    refine wl_nil ?_
    have hH11188 := hS11185.toHeld.mono (Mem.le_refl _) (List.Sublist.subset (.cons _ (.cons_cons _ (.cons_cons _ (.cons_cons _ (.refl _))))))
    refine ⟨hH11188, ?_⟩
    refine d_all (rs := [3]) (by kernel_rfl) (by simp) (fun j hj o ho => ?_)
    obtain rfl : j = 3 := by simpa using hj
    cases ho
    refine wl_makeSlice Tryz.underlying187 ty3 rfl (by decide) hS11185 (l := _) (c := _) rfl rfl (mk_0 hc11145) (mk_1 hc11145) (mk_2 hc11145 (by decide)) (mk_3 hc11145) ?_
    intro b11189 w11190 hS11191
    have hrc11193 : RCs 1 RInt m11075 (reps [.int .i64 0] (ishl 1 ((r12.length : Nat) : Int)).toNat) ((List.replicate (ishl 1 ((r12.length : Nat) : Int)).toNat 0 : List Int) : List Int) := RCs.reps rfl rfl _
    refine wl_nil ?_
    have hH11194 := hS11191.toHeld.mono (Mem.le_refl _) (List.Sublist.subset (.cons _ (.cons _ (.cons_cons _ (.cons_cons _ (.cons_cons _ (.refl _)))))))
    refine ⟨hH11194, ?_⟩
    refine d_v (i := 8) rfl (by kernel_rfl) rfl (r_assign (v := .slice _ _ _) rfl) hH11194 ?_
    refine d_v (i := 9) rfl (by kernel_rfl) rfl (r_assign (v := .slice _ _ _) rfl) hH11194 ?_
    refine d_end (by kernel_rfl) ?_
    have hS11195 := hS11191.front (.there (.there (.there (.there .here))))
    have hS11196 := hS11195.front (.there (.there (.there (.there .here))))
    have hS11197 := hS11196.front (.there (.there (.there (.there .here))))
    have hS11198 := hS11197.front (.there (.there (.there .here)))
    have hS11199 := hS11198.front (.there (.there (.there (.there .here))))
    exact ⟨_, _, _, _, _, _, _, _, row_n (hS11199.toHeld.own .here) hrc11187 (by decide), hrc11187, row_n (hS11199.toHeld.own (.there .here)) hrc11193 (by decide), hrc11193, hS11199, rfl, rfl, rfl, rfl, rfl⟩
  ·rintro f11206 w11207 ⟨a11157, n11158, c11159, cs11160, a11163, n11164, c11165, cs11166, hn11161, hrc11162, hn11167, hrc11168, hS11200, e11201, e11202, e11203, e11204, e11205⟩
   subst hn11161
   subst hn11167
   refine c_know (t := 1) e11201 <| c_know (t := 4) e11202 <| c_know (t := 5) e11203 <| c_know (t := 8) e11204 <| c_know (t := 9) e11205 ?_
   clear e11201 e11202 e11203 e11204 e11205
   refine c_seq <| c_seq <| c_region <| wl_h hS11200.toHeld (r_assign (v := .int .i64 _) rfl) <| wl_nil <| c_block <| c_loop (fun k f w => ∃ (set16460 : Int) (l16461 : List Int) (l16468 : List Int) (m16456 : Mem) (a16462 : Option Addr) (n16463 : Nat) (c16464 : Nat) (cs16465 : List Value) (a16469 : Option Addr) (n16470 : Nat) (c16471 : Nat) (cs16472 : List Value), mg80_l1 fuel r3 r12 l11079 k set16460 l16461 l16468 = some r ∧ m11075 ≤ m16456 ∧ n16463 = l16461.length ∧ RCs 1 RInt m16456 cs16465 l16461 ∧ n16470 = l16468.length ∧ RCs 1 RInt m16456 cs16472 l16468 ∧ St w m16456 (.row (.slice a16462 n16463 c16464) 3 1 cs16465 :: .row (.slice a16469 n16470 c16471) 3 1 cs16472 :: .row (.slice a11080 l11079.length c11082) 185 1 cs11083 :: .row (.slice a15 r12.length c17) 3 1 cs18 :: .box b9 41 [.int .i64 r3.corners, .slice a4 r3.streets.length c6] :: L) ∧ f 1 = .pointer (some ⟨b9, 0, none⟩) ∧ f 4 = .slice a15 r12.length c17 ∧ f 5 = .slice a11080 l11079.length c11082 ∧ f 8 = .slice a16469 n16470 c16471 ∧ f 9 = .slice a16462 n16463 c16464 ∧ f 10 = .int .i64 set16460) fuel ⟨1, (List.replicate (ishl 1 ((r12.length : Nat) : Int)).toNat 0 : List Int), (List.replicate (ishl 1 ((r12.length : Nat) : Int)).toNat 0 : List Int), m11075, a11157, ((List.replicate (ishl 1 ((r12.length : Nat) : Int)).toNat 0 : List Int)).length, c11159, cs11160, a11163, ((List.replicate (ishl 1 ((r12.length : Nat) : Int)).toNat 0 : List Int)).length, c11165, cs11166, hM, Mem.le_refl _, row_n (hS11200.toHeld.own .here) hrc11162 (by decide), hrc11162, row_n (hS11200.toHeld.own (.there .here)) hrc11168 (by decide), hrc11168, hS11200, rfl, rfl, rfl, rfl, rfl, rfl⟩ ?_
   rintro k_1 f16475 w16476 ⟨set16460, l16461, l16468, m16456, a16462, n16463, c16464, cs16465, a16469, n16470, c16471, cs16472, hM, hm16457, hn16466, hrc16467, hn16473, hrc16474, hS16478, e16479, e16480, e16481, e16482, e16483, e16484⟩
   replace hk8 := RRound.mono _ _ _ _ hk8 hm16457
   replace hr7 := RSl.mono RStreet.mono hr7 hm16457
   replace hrc19 := RCs.mono RInt.mono hrc19 hm16457
   replace hrc11074 := RCs.mono (RS.mono RWayR.mono) hrc11074 hm16457
   replace hrc11085 := RCs.mono (RS.mono RWayR.mono) hrc11085 hm16457
   replace hrc11162 := RCs.mono RInt.mono hrc11162 hm16457
   replace hrc11168 := RCs.mono RInt.mono hrc11168 hm16457
   have le16458 := Mem.le_trans le11077 hm16457
   have le16459 := hm16457
   subst hn16466
   subst hn16473
   refine c_know (t := 1) e16479 <| c_know (t := 4) e16480 <| c_know (t := 5) e16481 <| c_know (t := 8) e16482 <| c_know (t := 9) e16483 ?_
   refine c_know (t := 10) e16484 ?_
   clear e16479 e16480 e16481 e16482 e16483 e16484
   rcases k_1 with _ | k_1
   · exact none_ne hM
   rw [mg80_l1] at hM
   refine c_seq <| c_seq <| c_region <| wl_h hS16478.toHeld (r_move (v := .int .i64 _) rfl) <| wl_h hS16478.toHeld (r_move (v := .slice _ _ _) rfl) ?_
   refine wl_h hS16478.toHeld (r_len Tryz.underlying187 (a := _) (n := _) (c := _) rfl) <| wl_h hS16478.toHeld (r_lss (a := _) (b := _) rfl rfl) <| wl_nil <| c_cond (c := _) rfl (fun h16485 => ?_) (fun h16485 => ?_)
   ·replace hM := bif_t h16485 hM
    refine c_skip <| c_seq <| c_block <| c_seq <| c_region <| wl_h hS16478.toHeld (r_move (v := .int .i64 _) rfl) ?_
    obtain ⟨r16486, hq16487, hM⟩ := bnd_ok hM
    refine wl_call ent121 (vals := [.int .i64 _]) rfl (cg121 hS16478 hq16487) ?_
    rintro _ w16495 ⟨a16489, n16490, c16491, cs16492, rfl, rfl, hrc16493, hS16496⟩
    refine wl_h hS16496.toHeld (r_assign (v := .slice _ _ _) rfl) <| wl_nil <| c_seq <| c_region <| wl_h hS16496.toHeld (r_move (v := .slice _ _ _) rfl) ?_
    refine wl_h hS16496.toHeld (r_move (v := .int .i64 _) rfl) ?_
    obtain ⟨x16497, hx16498, h16499, h16500, hM⟩ := getK_ok hM
    obtain ⟨b16501, rfl⟩ := row_some (hS16496.toHeld.own (.there (.there .here))) hrc16474 (by decide) h16499 h16500
    obtain ⟨es16502, hes16503, hR16504⟩ := row_read hrc16474 hx16498
    obtain rfl := hR16504
    refine wl_h hS16496.toHeld (r_indexAddr Tryz.underlying187 ty3 (b := _) (o := _) (n := _) (c := _) (i := set16460) rfl rfl h16499 (row_lt (hS16496.toHeld.own (.there (.there .here))) hrc16474 (by decide) h16500)) <| wl_store_row ty3 hS16496 rfl (v := .int .i64 _) rfl (vs := [.int .i64 _]) rfl rfl rfl (.there (.there .here)) (Nat.le_trans (by simp only [Nat.zero_add]; omega) (row_room hrc16474 hx16498)) ?_
    intro w16505 hS16506
    have hrc16507 := RCs.seti hrc16474 hx16498 (vs := [.int .i64 1099511627776]) (y := 1099511627776) rfl rfl
    generalize spl cs16472 (0 + set16460.toNat * 1) [.int .i64 1099511627776] = cs16508 at hS16506 hrc16507
    refine wl_nil <| c_seq <| c_region <| wl_h hS16506.toHeld (r_move (v := .slice _ _ _) rfl) ?_
    obtain ⟨m16509, hm16510, hS16511, hr16512⟩ := hS16506.freezeR .here hrc16493 RInt.mono (by decide)
    have le16514 := Mem.le_trans le16458 hm16510
    have le16515 := Mem.le_trans le16459 hm16510
    replace hk8 := RRound.mono _ _ _ _ hk8 hm16510
    replace hr7 := RSl.mono RStreet.mono hr7 hm16510
    replace hrc19 := RCs.mono RInt.mono hrc19 hm16510
    replace hrc11074 := RCs.mono (RS.mono RWayR.mono) hrc11074 hm16510
    replace hrc11085 := RCs.mono (RS.mono RWayR.mono) hrc11085 hm16510
    replace hrc11162 := RCs.mono RInt.mono hrc11162 hm16510
    replace hrc11168 := RCs.mono RInt.mono hrc11168 hm16510
    replace hrc16467 := RCs.mono RInt.mono hrc16467 hm16510
    replace hrc16474 := RCs.mono RInt.mono hrc16474 hm16510
    replace hrc16493 := RCs.mono RInt.mono hrc16493 hm16510
    replace hrc16507 := RCs.mono RInt.mono hrc16507 hm16510
    obtain ⟨hc16521, hM⟩ := chk_ok hM
    have hr16516 := RSl.dropI hr16512 hc16521
    refine wl_h hS16511.toHeld (r_slice_lo Tryz.underlying26 ty3 (a := _) (n := _) (c := _) (l := 1) rfl rfl (cut_0 hc16521) (Int.le_trans (cut_1 hc16521) (cut_2 hc16521))) ?_
    generalize (if c16491 = (1 : Int).toNat then a16489 else Option.map (fun q => q.add ((1 : Int).toNat * 1)) a16489) = a16517 at hr16516 ⊢
    refine wl_h hS16511.toHeld (r_len Tryz.underlying26 (a := _) (n := _) (c := _) rfl) <| wl_h hS16511.toHeld (r_move (v := .int .i64 _) rfl) <| wl_nil <| c_block <| c_loop (fun k f w => ∃ (x17315 : Int) (l17316 : List Int) (l17323 : List Int) (a17317 : Option Addr) (n17318 : Nat) (c17319 : Nat) (cs17320 : List Value) (a17324 : Option Addr) (n17325 : Nat) (c17326 : Nat) (cs17327 : List Value), mg80_l2 fuel r12 l11079 set16460 r16486 (mg80_l1 fuel r3 r12 l11079 k_1) k x17315 l17316 l17323 = some r ∧ n17318 = l17316.length ∧ RCs 1 RInt m16509 cs17320 l17316 ∧ n17325 = l17323.length ∧ RCs 1 RInt m16509 cs17327 l17323 ∧ St w m16509 (.row (.slice a17317 n17318 c17319) 3 1 cs17320 :: .row (.slice a17324 n17325 c17326) 3 1 cs17327 :: .row (.slice a11080 l11079.length c11082) 185 1 cs11083 :: .row (.slice a15 r12.length c17) 3 1 cs18 :: .box b9 41 [.int .i64 r3.corners, .slice a4 r3.streets.length c6] :: L) ∧ f 1 = .pointer (some ⟨b9, 0, none⟩) ∧ f 4 = .slice a15 r12.length c17 ∧ f 5 = .slice a11080 l11079.length c11082 ∧ f 8 = .slice a17324 n17325 c17326 ∧ f 9 = .slice a17317 n17318 c17319 ∧ f 10 = .int .i64 set16460 ∧ f 11 = .slice a16489 r16486.length c16491 ∧ f 56 = .slice a16517 (r16486.length - (1 : Int).toNat) (c16491 - (1 : Int).toNat) ∧ f 57 = .int .i64 (((r16486.length - (1 : Int).toNat) : Nat) : Int) ∧ f 58 = .int .i64 x17315) fuel ⟨0, l16461, (l16468.set set16460.toNat 1099511627776), a16462, l16461.length, c16464, cs16465, (some ⟨b16501, 0, none⟩), l16468.length, c16471, cs16508, hM, row_n (hS16511.toHeld.own .here) hrc16467 (by decide), hrc16467, row_n (hS16511.toHeld.own (.there .here)) hrc16507 (by decide), hrc16507, hS16511, rfl, rfl, rfl, rfl, rfl, rfl, rfl, rfl, rfl, rfl⟩ ?_
    rintro k_2 f17330 w17331 ⟨x17315, l17316, l17323, a17317, n17318, c17319, cs17320, a17324, n17325, c17326, cs17327, hM, hn17321, hrc17322, hn17328, hrc17329, hS17333, e17334, e17335, e17336, e17337, e17338, e17339, e17340, e17341, e17342, e17343⟩
    subst hn17321
    subst hn17328
    refine c_know (t := 1) e17334 <| c_know (t := 4) e17335 <| c_know (t := 5) e17336 <| c_know (t := 8) e17337 <| c_know (t := 9) e17338 ?_
    refine c_know (t := 10) e17339 <| c_know (t := 11) e17340 <| c_know (t := 56) e17341 <| c_know (t := 57) e17342 <| c_know (t := 58) e17343 ?_
    clear e17334 e17335 e17336 e17337 e17338 e17339 e17340 e17341 e17342 e17343
    rcases k_2 with _ | k_2
    · exact none_ne hM
    rw [mg80_l2] at hM
    refine c_seq <| c_region <| wl_h hS17333.toHeld (r_lss (a := _) (b := _) rfl rfl) <| wl_nil <| c_seq <| c_cond (c := _) rfl (fun h17344 => ?_) (fun h17344 => ?_)
    ·replace hM := bif_t h17344 hM
     refine c_skip <| c_seq <| c_block <| c_seq <| c_region ?_
     obtain ⟨x17345, hx17346, h17347, h17348, hM⟩ := getK_ok hM
     obtain ⟨b17349, o17350, rfl⟩ := RSl.elem_a hr16516 hx17346
     obtain ⟨cs17351, hI17352, hR17353⟩ := RSl.elem_at hr16516 hx17346
     obtain rfl := hR17353
     refine wl_h hS17333.toHeld (r_indexAddr Tryz.underlying26 ty3 (b := _) (o := _) (n := _) (c := _) (i := x17315) rfl rfl h17347 (RSl.lt hr16516 h17348)) <| wl_h hS17333.toHeld (r_imm ty3 (k := 0) hI17352 rfl rfl rfl (v := .int .i64 _) rfl) <| wl_h hS17333.toHeld (r_assign (v := .int .i64 _) rfl) <| wl_nil <| c_seq ?_
     obtain ⟨x17432, hx17433, h17434, h17435, hM⟩ := getK_ok hM
     obtain ⟨x17441, hx17442, h17443, h17444, hM⟩ := getK_ok hM
     obtain ⟨x17453, hx17454, h17455, h17456, hM⟩ := getK_ok hM
     obtain ⟨x17461, hx17462, h17463, h17464, hM⟩ := getK_ok hM
     obtain ⟨hc17468, hM⟩ := chk_ok hM
     obtain ⟨hc17469, hM⟩ := chk_ok hM
     obtain ⟨x17472, hx17473, h17474, h17475, hM⟩ := getK_ok hM
     obtain ⟨r17495, hq17496, hM⟩ := bnd_ok hM
     obtain ⟨hc17505, hM⟩ := chk_ok hM
     have hH17506 := (hS17333.weaken (.cons_cons _ (.cons_cons _ (.cons _ (.cons _ (.cons_cons _ (.refl _))))))).toHeld
     refine c_drawJ (k := 26) (fun f w => St w m16509 (.row (.slice a17317 l17316.length c17319) 3 1 cs17320 :: .row (.slice a17324 l17323.length c17326) 3 1 cs17327 :: .box b9 41 [.int .i64 r3.corners, .slice a4 r3.streets.length c6] :: .row (.slice a11080 l11079.length c11082) 185 1 cs11083 :: .row (.slice a15 r12.length c17) 3 1 cs18 :: L) ∧ f 1 = .pointer (some ⟨b9, 0, none⟩) ∧ f 4 = .slice a15 r12.length c17 ∧ f 5 = .slice a11080 l11079.length c11082 ∧ f 8 = .slice a17324 l17323.length c17326 ∧ f 9 = .slice a17317 l17316.length c17319 ∧ f 10 = .int .i64 set16460 ∧ f 11 = .slice a16489 r16486.length c16491 ∧ f 13 = .int .i64 x17345 ∧ f 14 = .int .i64 (x17472.length + r17495) ∧ f 56 = .slice (some ⟨b17349, o17350, none⟩) (r16486.length - (1 : Int).toNat) (c16491 - (1 : Int).toNat) ∧ f 57 = .int .i64 (((r16486.length - (1 : Int).toNat) : Nat) : Int) ∧ f 58 = .int .i64 x17315) (fun w => Held w m16509 (.row (.slice a17317 l17316.length c17319) 3 1 cs17320 :: .row (.slice a17324 l17323.length c17326) 3 1 cs17327 :: .box b9 41 [.int .i64 r3.corners, .slice a4 r3.streets.length c6] :: L)) mixed rfl ?_ ?_
     ·replace hH17506 := hH17506.drew1
      have hS17507 := hS17333.drew1
      refine d_v (i := 0) rfl (by kernel_rfl) rfl (r_move (v := .slice _ _ _) rfl) hH17506 ?_
      refine d_v (i := 1) rfl (by kernel_rfl) rfl (r_move (v := .slice _ _ _) rfl) hH17506 ?_
      obtain ⟨b17508, o17509, rfl⟩ := RSl.elem_a hr16512 hx17433
      obtain ⟨cs17510, hI17511, hR17512⟩ := RSl.elem_at hr16512 hx17433
      obtain rfl := hR17512
      refine d_v (i := 2) rfl (by kernel_rfl) rfl (r_indexAddr Tryz.underlying26 ty3 (b := _) (o := _) (n := _) (c := _) (i := 0) rfl rfl h17434 (RSl.lt hr16512 h17435)) hH17506 ?_
      refine d_v (i := 3) rfl (by kernel_rfl) rfl (r_imm ty3 (k := 0) hI17511 rfl rfl rfl (v := .int .i64 _) rfl) hH17506 ?_
      obtain ⟨b17513, rfl⟩ := row_some (hS17507.toHeld.own (.there (.there .here))) hrc11085 (by decide) h17443 h17444
      obtain ⟨es17514, hes17515, hR17516⟩ := row_read hrc11085 hx17442
      obtain ⟨a17517, n17518, c17519, rfl, hr17520⟩ := hR17516
      obtain rfl := hr17520.1
      refine d_v (i := 4) rfl (by kernel_rfl) rfl (r_indexAddr Tryz.underlying184 ty185 (b := _) (o := _) (n := _) (c := _) (i := x17432) rfl rfl h17443 (row_lt (hS17507.toHeld.own (.there (.there .here))) hrc11085 (by decide) h17444)) hH17506 ?_
      refine d_v (i := 6) rfl (by kernel_rfl) rfl (r_move (v := .slice _ _ _) rfl) hH17506 ?_
      refine d_v (i := 7) rfl (by kernel_rfl) rfl (r_move (v := .int .i64 _) rfl) hH17506 ?_
      obtain ⟨b17521, rfl⟩ := row_some (hS17507.toHeld.own (.there (.there (.there .here)))) hrc19 (by decide) h17455 h17456
      obtain ⟨es17522, hes17523, hR17524⟩ := row_read hrc19 hx17454
      obtain rfl := hR17524
      refine d_v (i := 8) rfl (by kernel_rfl) rfl (r_indexAddr Tryz.underlying26 ty3 (b := _) (o := _) (n := _) (c := _) (i := x17345) rfl rfl h17455 (row_lt (hS17507.toHeld.own (.there (.there (.there .here)))) hrc19 (by decide) h17456)) hH17506 ?_
      refine d_v (i := 13) rfl (by kernel_rfl) rfl (r_move (v := .slice _ _ _) rfl) hH17506 ?_
      refine d_v (i := 14) rfl (by kernel_rfl) rfl (r_move (v := .int .i64 _) rfl) hH17506 ?_
      refine d_v (i := 15) rfl (by kernel_rfl) rfl (r_move (v := .slice _ _ _) rfl) hH17506 ?_
      obtain ⟨cs17525, hI17526, hR17527⟩ := RSl.elem_at hr16512 hx17462
      obtain rfl := hR17527
      refine d_v (i := 16) rfl (by kernel_rfl) rfl (r_indexAddr Tryz.underlying26 ty3 (b := _) (o := _) (n := _) (c := _) (i := 0) rfl rfl h17463 (RSl.lt hr16512 h17464)) hH17506 ?_
      refine d_v (i := 17) rfl (by kernel_rfl) rfl (r_imm ty3 (k := 0) hI17526 rfl rfl rfl (v := .int .i64 _) rfl) hH17506 ?_
      refine d_v (i := 18) rfl (by kernel_rfl) rfl (r_shl (a := _) (b := _) rfl rfl hc17468) hH17506 ?_
      refine d_v (i := 19) rfl (by kernel_rfl) rfl (r_xor (a := _) (b := _) rfl rfl) hH17506 ?_
      refine d_v (i := 20) rfl (by kernel_rfl) rfl (r_move (v := .int .i64 _) rfl) hH17506 ?_
      refine d_v (i := 21) rfl (by kernel_rfl) rfl (r_shl (a := _) (b := _) rfl rfl hc17469) hH17506 ?_
      refine d_v (i := 22) rfl (by kernel_rfl) rfl (r_xor (a := _) (b := _) rfl rfl) hH17506 ?_
      refine d_all (rs := [5, 9, 23]) (by kernel_rfl) (by simp) (fun j hj o ho => ?_)
      simp only [List.mem_cons, List.not_mem_nil, or_false] at hj
      rcases hj with rfl | rfl | rfl
      ·cases ho
       refine wl_h hS17507.toHeld (r_row ty185 (k := 0) (i := x17432.toNat) (.there (.there .here)) rfl rfl (row_room hrc11085 hx17442) hes17515 rfl (v := .slice _ _ _) rfl) <| wl_nil ?_
       have hH17528 := hS17507.toHeld.mono (Mem.le_refl _) (List.Sublist.subset (.cons_cons _ (.cons_cons _ (.cons _ (.cons _ (.cons_cons _ (.refl _)))))))
       refine ⟨hH17528, ?_⟩
       refine d_all (rs := [9, 23]) (by kernel_rfl) (by simp) (fun j hj o ho => ?_)
       simp only [List.mem_cons, List.not_mem_nil, or_false] at hj
       rcases hj with rfl | rfl
       ·cases ho
        refine wl_h hS17507.toHeld (r_row ty3 (k := 0) (i := x17345.toNat) (.there (.there (.there .here))) rfl rfl (row_room hrc19 hx17454) hes17523 rfl (v := .int .i64 _) rfl) <| wl_nil ?_
        have hH17529 := hS17507.toHeld.mono (Mem.le_refl _) (List.Sublist.subset (.cons_cons _ (.cons_cons _ (.cons _ (.cons _ (.cons_cons _ (.refl _)))))))
        refine ⟨hH17529, ?_⟩
        obtain ⟨b17530, o17531, rfl⟩ := RSl.elem_a hr17520 hx17473
        obtain ⟨cs17532, hI17533, hR17534⟩ := RSl.elem_at hr17520 hx17473
        have hk17539 := hR17534
        obtain ⟨a17535, n17536, c17537, rfl, hr17538⟩ := hR17534
        obtain rfl := (ROp.rsl hr17538).1
        refine d_v (i := 10) rfl (by kernel_rfl) rfl (r_indexAddr Tryz.underlying185 ty190 (b := _) (o := _) (n := _) (c := _) (i := x17453) rfl rfl h17474 (RSl.lt hr17520 h17475)) hH17529 ?_
        refine d_v (i := 11) rfl (by kernel_rfl) rfl (r_fieldAddr fld190_0 (b := _) (o := _) rfl) hH17529 ?_
        refine d_v (i := 12) rfl (by kernel_rfl) rfl (r_imm ty3 (k := 0) hI17533 rfl rfl rfl (v := .int .i64 _) rfl) hH17529 ?_
        refine d_all (rs := [23]) (by kernel_rfl) (by simp) (fun j hj o ho => ?_)
        obtain rfl : j = 23 := by simpa using hj
        cases ho
        obtain ⟨m17540, hm17541, hS17542, hr17543, back17544⟩ := hS17507.lend (.there .here) hrc17329 RInt.mono (by decide)
        have le17545 := hm17541
        have hrc17546 := RCs.mono RInt.mono hrc17322 hm17541
        have hrc17547 := RCs.mono (RS.mono RWayR.mono) hrc11085 hm17541
        have hrc17548 := RCs.mono RInt.mono hrc19 hm17541
        refine wl_call ent122 (vals := [.slice _ _ _, .int .i64 _]) rfl (cg122 hS17542 hr17543 hq17496) ?_
        rintro _ w17550 ⟨rfl, hS17551⟩
        have hS17552 := back17544 _ _ hS17551
        refine wl_nil ?_
        have hS17554 := hS17552.front (.there (.there (.there (.there .here))))
        have hS17555 := hS17554.front (.there .here)
        have hS17556 := hS17555.front (.there (.there .here))
        have hH17553 := hS17556.toHeld.mono (Mem.le_refl _) (List.Sublist.subset (.cons_cons _ (.cons_cons _ (.cons_cons _ (.cons _ (.cons _ (.refl _)))))))
        refine ⟨hH17553, ?_⟩
        refine d_v (i := 24) rfl (by kernel_rfl) rfl (r_add (a := _) (b := _) rfl rfl (ok_lo hc17505) (ok_hi hc17505)) hH17553 ?_
        refine d_v (i := 25) rfl (by kernel_rfl) rfl (r_assign (v := .int .i64 _) rfl) hH17553 ?_
        refine d_end (by kernel_rfl) ?_
        exact ⟨hS17556, rfl, rfl, rfl, rfl, rfl, rfl, rfl, rfl, rfl, rfl, rfl, rfl⟩
       ·cases ho
        obtain ⟨m17557, hm17558, hS17559, hr17560, back17561⟩ := hS17507.lend (.there .here) hrc17329 RInt.mono (by decide)
        have le17562 := hm17558
        have hrc17563 := RCs.mono RInt.mono hrc17322 hm17558
        have hrc17564 := RCs.mono (RS.mono RWayR.mono) hrc11085 hm17558
        have hrc17565 := RCs.mono RInt.mono hrc19 hm17558
        refine wl_call ent122 (vals := [.slice _ _ _, .int .i64 _]) rfl (cg122 hS17559 hr17560 hq17496) ?_
        rintro _ w17567 ⟨rfl, hS17568⟩
        have hS17569 := back17561 _ _ hS17568
        refine wl_nil ?_
        have hS17571 := hS17569.front (.there (.there (.there (.there .here))))
        have hS17572 := hS17571.front (.there .here)
        have hS17573 := hS17572.front (.there (.there .here))
        have hH17570 := hS17573.toHeld.mono (Mem.le_refl _) (List.Sublist.subset (.cons_cons _ (.cons_cons _ (.cons_cons _ (.cons _ (.cons _ (.refl _)))))))
        refine ⟨hH17570, ?_⟩
        refine d_all (rs := [9]) (by kernel_rfl) (by simp) (fun j hj o ho => ?_)
        obtain rfl : j = 9 := by simpa using hj
        cases ho
        refine wl_h hS17573.toHeld (r_row ty3 (k := 0) (i := x17345.toNat) (.there (.there (.there (.there .here)))) rfl rfl (row_room hrc19 hx17454) hes17523 rfl (v := .int .i64 _) rfl) <| wl_nil ?_
        have hH17574 := hS17573.toHeld.mono (Mem.le_refl _) (List.Sublist.subset (.cons_cons _ (.cons_cons _ (.cons_cons _ (.cons _ (.cons _ (.refl _)))))))
        refine ⟨hH17574, ?_⟩
        obtain ⟨b17575, o17576, rfl⟩ := RSl.elem_a hr17520 hx17473
        obtain ⟨cs17577, hI17578, hR17579⟩ := RSl.elem_at hr17520 hx17473
        have hk17584 := hR17579
        obtain ⟨a17580, n17581, c17582, rfl, hr17583⟩ := hR17579
        obtain rfl := (ROp.rsl hr17583).1
        refine d_v (i := 10) rfl (by kernel_rfl) rfl (r_indexAddr Tryz.underlying185 ty190 (b := _) (o := _) (n := _) (c := _) (i := x17453) rfl rfl h17474 (RSl.lt hr17520 h17475)) hH17574 ?_
        refine d_v (i := 11) rfl (by kernel_rfl) rfl (r_fieldAddr fld190_0 (b := _) (o := _) rfl) hH17574 ?_
        refine d_v (i := 12) rfl (by kernel_rfl) rfl (r_imm ty3 (k := 0) hI17578 rfl rfl rfl (v := .int .i64 _) rfl) hH17574 ?_
        refine d_v (i := 24) rfl (by kernel_rfl) rfl (r_add (a := _) (b := _) rfl rfl (ok_lo hc17505) (ok_hi hc17505)) hH17574 ?_
        refine d_v (i := 25) rfl (by kernel_rfl) rfl (r_assign (v := .int .i64 _) rfl) hH17574 ?_
        refine d_end (by kernel_rfl) ?_
        exact ⟨hS17573, rfl, rfl, rfl, rfl, rfl, rfl, rfl, rfl, rfl, rfl, rfl, rfl⟩
      ·cases ho
       refine wl_h hS17507.toHeld (r_row ty3 (k := 0) (i := x17345.toNat) (.there (.there (.there .here))) rfl rfl (row_room hrc19 hx17454) hes17523 rfl (v := .int .i64 _) rfl) <| wl_nil ?_
       have hH17585 := hS17507.toHeld.mono (Mem.le_refl _) (List.Sublist.subset (.cons_cons _ (.cons_cons _ (.cons _ (.cons _ (.cons_cons _ (.refl _)))))))
       refine ⟨hH17585, ?_⟩
       refine d_all (rs := [5, 23]) (by kernel_rfl) (by simp) (fun j hj o ho => ?_)
       simp only [List.mem_cons, List.not_mem_nil, or_false] at hj
       rcases hj with rfl | rfl
       ·cases ho
        refine wl_h hS17507.toHeld (r_row ty185 (k := 0) (i := x17432.toNat) (.there (.there .here)) rfl rfl (row_room hrc11085 hx17442) hes17515 rfl (v := .slice _ _ _) rfl) <| wl_nil ?_
        have hH17586 := hS17507.toHeld.mono (Mem.le_refl _) (List.Sublist.subset (.cons_cons _ (.cons_cons _ (.cons _ (.cons _ (.cons_cons _ (.refl _)))))))
        refine ⟨hH17586, ?_⟩
        obtain ⟨b17587, o17588, rfl⟩ := RSl.elem_a hr17520 hx17473
        obtain ⟨cs17589, hI17590, hR17591⟩ := RSl.elem_at hr17520 hx17473
        have hk17596 := hR17591
        obtain ⟨a17592, n17593, c17594, rfl, hr17595⟩ := hR17591
        obtain rfl := (ROp.rsl hr17595).1
        refine d_v (i := 10) rfl (by kernel_rfl) rfl (r_indexAddr Tryz.underlying185 ty190 (b := _) (o := _) (n := _) (c := _) (i := x17453) rfl rfl h17474 (RSl.lt hr17520 h17475)) hH17586 ?_
        refine d_v (i := 11) rfl (by kernel_rfl) rfl (r_fieldAddr fld190_0 (b := _) (o := _) rfl) hH17586 ?_
        refine d_v (i := 12) rfl (by kernel_rfl) rfl (r_imm ty3 (k := 0) hI17590 rfl rfl rfl (v := .int .i64 _) rfl) hH17586 ?_
        refine d_all (rs := [23]) (by kernel_rfl) (by simp) (fun j hj o ho => ?_)
        obtain rfl : j = 23 := by simpa using hj
        cases ho
        obtain ⟨m17597, hm17598, hS17599, hr17600, back17601⟩ := hS17507.lend (.there .here) hrc17329 RInt.mono (by decide)
        have le17602 := hm17598
        have hrc17603 := RCs.mono RInt.mono hrc17322 hm17598
        have hrc17604 := RCs.mono (RS.mono RWayR.mono) hrc11085 hm17598
        have hrc17605 := RCs.mono RInt.mono hrc19 hm17598
        refine wl_call ent122 (vals := [.slice _ _ _, .int .i64 _]) rfl (cg122 hS17599 hr17600 hq17496) ?_
        rintro _ w17607 ⟨rfl, hS17608⟩
        have hS17609 := back17601 _ _ hS17608
        refine wl_nil ?_
        have hS17611 := hS17609.front (.there (.there (.there (.there .here))))
        have hS17612 := hS17611.front (.there .here)
        have hS17613 := hS17612.front (.there (.there .here))
        have hH17610 := hS17613.toHeld.mono (Mem.le_refl _) (List.Sublist.subset (.cons_cons _ (.cons_cons _ (.cons_cons _ (.cons _ (.cons _ (.refl _)))))))
        refine ⟨hH17610, ?_⟩
        refine d_v (i := 24) rfl (by kernel_rfl) rfl (r_add (a := _) (b := _) rfl rfl (ok_lo hc17505) (ok_hi hc17505)) hH17610 ?_
        refine d_v (i := 25) rfl (by kernel_rfl) rfl (r_assign (v := .int .i64 _) rfl) hH17610 ?_
        refine d_end (by kernel_rfl) ?_
        exact ⟨hS17613, rfl, rfl, rfl, rfl, rfl, rfl, rfl, rfl, rfl, rfl, rfl, rfl⟩
       ·cases ho
        obtain ⟨m17614, hm17615, hS17616, hr17617, back17618⟩ := hS17507.lend (.there .here) hrc17329 RInt.mono (by decide)
        have le17619 := hm17615
        have hrc17620 := RCs.mono RInt.mono hrc17322 hm17615
        have hrc17621 := RCs.mono (RS.mono RWayR.mono) hrc11085 hm17615
        have hrc17622 := RCs.mono RInt.mono hrc19 hm17615
        refine wl_call ent122 (vals := [.slice _ _ _, .int .i64 _]) rfl (cg122 hS17616 hr17617 hq17496) ?_
        rintro _ w17624 ⟨rfl, hS17625⟩
        have hS17626 := back17618 _ _ hS17625
        refine wl_nil ?_
        have hS17628 := hS17626.front (.there (.there (.there (.there .here))))
        have hS17629 := hS17628.front (.there .here)
        have hS17630 := hS17629.front (.there (.there .here))
        have hH17627 := hS17630.toHeld.mono (Mem.le_refl _) (List.Sublist.subset (.cons_cons _ (.cons_cons _ (.cons_cons _ (.cons _ (.cons _ (.refl _)))))))
        refine ⟨hH17627, ?_⟩
        refine d_all (rs := [5]) (by kernel_rfl) (by simp) (fun j hj o ho => ?_)
        obtain rfl : j = 5 := by simpa using hj
        cases ho
        refine wl_h hS17630.toHeld (r_row ty185 (k := 0) (i := x17432.toNat) (.there (.there (.there .here))) rfl rfl (row_room hrc11085 hx17442) hes17515 rfl (v := .slice _ _ _) rfl) <| wl_nil ?_
        have hH17631 := hS17630.toHeld.mono (Mem.le_refl _) (List.Sublist.subset (.cons_cons _ (.cons_cons _ (.cons_cons _ (.cons _ (.cons _ (.refl _)))))))
        refine ⟨hH17631, ?_⟩
        obtain ⟨b17632, o17633, rfl⟩ := RSl.elem_a hr17520 hx17473
        obtain ⟨cs17634, hI17635, hR17636⟩ := RSl.elem_at hr17520 hx17473
        have hk17641 := hR17636
        obtain ⟨a17637, n17638, c17639, rfl, hr17640⟩ := hR17636
        obtain rfl := (ROp.rsl hr17640).1
        refine d_v (i := 10) rfl (by kernel_rfl) rfl (r_indexAddr Tryz.underlying185 ty190 (b := _) (o := _) (n := _) (c := _) (i := x17453) rfl rfl h17474 (RSl.lt hr17520 h17475)) hH17631 ?_
        refine d_v (i := 11) rfl (by kernel_rfl) rfl (r_fieldAddr fld190_0 (b := _) (o := _) rfl) hH17631 ?_
        refine d_v (i := 12) rfl (by kernel_rfl) rfl (r_imm ty3 (k := 0) hI17635 rfl rfl rfl (v := .int .i64 _) rfl) hH17631 ?_
        refine d_v (i := 24) rfl (by kernel_rfl) rfl (r_add (a := _) (b := _) rfl rfl (ok_lo hc17505) (ok_hi hc17505)) hH17631 ?_
        refine d_v (i := 25) rfl (by kernel_rfl) rfl (r_assign (v := .int .i64 _) rfl) hH17631 ?_
        refine d_end (by kernel_rfl) ?_
        exact ⟨hS17630, rfl, rfl, rfl, rfl, rfl, rfl, rfl, rfl, rfl, rfl, rfl, rfl⟩
      ·cases ho
       obtain ⟨m17642, hm17643, hS17644, hr17645, back17646⟩ := hS17507.lend (.there .here) hrc17329 RInt.mono (by decide)
       have le17647 := hm17643
       have hrc17648 := RCs.mono RInt.mono hrc17322 hm17643
       have hrc17649 := RCs.mono (RS.mono RWayR.mono) hrc11085 hm17643
       have hrc17650 := RCs.mono RInt.mono hrc19 hm17643
       refine wl_call ent122 (vals := [.slice _ _ _, .int .i64 _]) rfl (cg122 hS17644 hr17645 hq17496) ?_
       rintro _ w17652 ⟨rfl, hS17653⟩
       have hS17654 := back17646 _ _ hS17653
       refine wl_nil ?_
       have hS17656 := hS17654.front (.there (.there (.there (.there .here))))
       have hS17657 := hS17656.front (.there .here)
       have hS17658 := hS17657.front (.there (.there .here))
       have hH17655 := hS17658.toHeld.mono (Mem.le_refl _) (List.Sublist.subset (.cons_cons _ (.cons_cons _ (.cons_cons _ (.cons _ (.cons _ (.refl _)))))))
       refine ⟨hH17655, ?_⟩
       refine d_all (rs := [5, 9]) (by kernel_rfl) (by simp) (fun j hj o ho => ?_)
       simp only [List.mem_cons, List.not_mem_nil, or_false] at hj
       rcases hj with rfl | rfl
       ·cases ho
        refine wl_h hS17658.toHeld (r_row ty185 (k := 0) (i := x17432.toNat) (.there (.there (.there .here))) rfl rfl (row_room hrc11085 hx17442) hes17515 rfl (v := .slice _ _ _) rfl) <| wl_nil ?_
        have hH17659 := hS17658.toHeld.mono (Mem.le_refl _) (List.Sublist.subset (.cons_cons _ (.cons_cons _ (.cons_cons _ (.cons _ (.cons _ (.refl _)))))))
        refine ⟨hH17659, ?_⟩
        refine d_all (rs := [9]) (by kernel_rfl) (by simp) (fun j hj o ho => ?_)
        obtain rfl : j = 9 := by simpa using hj
        cases ho
        refine wl_h hS17658.toHeld (r_row ty3 (k := 0) (i := x17345.toNat) (.there (.there (.there (.there .here)))) rfl rfl (row_room hrc19 hx17454) hes17523 rfl (v := .int .i64 _) rfl) <| wl_nil ?_
        have hH17660 := hS17658.toHeld.mono (Mem.le_refl _) (List.Sublist.subset (.cons_cons _ (.cons_cons _ (.cons_cons _ (.cons _ (.cons _ (.refl _)))))))
        refine ⟨hH17660, ?_⟩
        obtain ⟨b17661, o17662, rfl⟩ := RSl.elem_a hr17520 hx17473
        obtain ⟨cs17663, hI17664, hR17665⟩ := RSl.elem_at hr17520 hx17473
        have hk17670 := hR17665
        obtain ⟨a17666, n17667, c17668, rfl, hr17669⟩ := hR17665
        obtain rfl := (ROp.rsl hr17669).1
        refine d_v (i := 10) rfl (by kernel_rfl) rfl (r_indexAddr Tryz.underlying185 ty190 (b := _) (o := _) (n := _) (c := _) (i := x17453) rfl rfl h17474 (RSl.lt hr17520 h17475)) hH17660 ?_
        refine d_v (i := 11) rfl (by kernel_rfl) rfl (r_fieldAddr fld190_0 (b := _) (o := _) rfl) hH17660 ?_
        refine d_v (i := 12) rfl (by kernel_rfl) rfl (r_imm ty3 (k := 0) hI17664 rfl rfl rfl (v := .int .i64 _) rfl) hH17660 ?_
        refine d_v (i := 24) rfl (by kernel_rfl) rfl (r_add (a := _) (b := _) rfl rfl (ok_lo hc17505) (ok_hi hc17505)) hH17660 ?_
        refine d_v (i := 25) rfl (by kernel_rfl) rfl (r_assign (v := .int .i64 _) rfl) hH17660 ?_
        refine d_end (by kernel_rfl) ?_
        exact ⟨hS17658, rfl, rfl, rfl, rfl, rfl, rfl, rfl, rfl, rfl, rfl, rfl, rfl⟩
       ·cases ho
        refine wl_h hS17658.toHeld (r_row ty3 (k := 0) (i := x17345.toNat) (.there (.there (.there (.there .here)))) rfl rfl (row_room hrc19 hx17454) hes17523 rfl (v := .int .i64 _) rfl) <| wl_nil ?_
        have hH17671 := hS17658.toHeld.mono (Mem.le_refl _) (List.Sublist.subset (.cons_cons _ (.cons_cons _ (.cons_cons _ (.cons _ (.cons _ (.refl _)))))))
        refine ⟨hH17671, ?_⟩
        refine d_all (rs := [5]) (by kernel_rfl) (by simp) (fun j hj o ho => ?_)
        obtain rfl : j = 5 := by simpa using hj
        cases ho
        refine wl_h hS17658.toHeld (r_row ty185 (k := 0) (i := x17432.toNat) (.there (.there (.there .here))) rfl rfl (row_room hrc11085 hx17442) hes17515 rfl (v := .slice _ _ _) rfl) <| wl_nil ?_
        have hH17672 := hS17658.toHeld.mono (Mem.le_refl _) (List.Sublist.subset (.cons_cons _ (.cons_cons _ (.cons_cons _ (.cons _ (.cons _ (.refl _)))))))
        refine ⟨hH17672, ?_⟩
        obtain ⟨b17673, o17674, rfl⟩ := RSl.elem_a hr17520 hx17473
        obtain ⟨cs17675, hI17676, hR17677⟩ := RSl.elem_at hr17520 hx17473
        have hk17682 := hR17677
        obtain ⟨a17678, n17679, c17680, rfl, hr17681⟩ := hR17677
        obtain rfl := (ROp.rsl hr17681).1
        refine d_v (i := 10) rfl (by kernel_rfl) rfl (r_indexAddr Tryz.underlying185 ty190 (b := _) (o := _) (n := _) (c := _) (i := x17453) rfl rfl h17474 (RSl.lt hr17520 h17475)) hH17672 ?_
        refine d_v (i := 11) rfl (by kernel_rfl) rfl (r_fieldAddr fld190_0 (b := _) (o := _) rfl) hH17672 ?_
        refine d_v (i := 12) rfl (by kernel_rfl) rfl (r_imm ty3 (k := 0) hI17676 rfl rfl rfl (v := .int .i64 _) rfl) hH17672 ?_
        refine d_v (i := 24) rfl (by kernel_rfl) rfl (r_add (a := _) (b := _) rfl rfl (ok_lo hc17505) (ok_hi hc17505)) hH17672 ?_
        refine d_v (i := 25) rfl (by kernel_rfl) rfl (r_assign (v := .int .i64 _) rfl) hH17672 ?_
        refine d_end (by kernel_rfl) ?_
        exact ⟨hS17658, rfl, rfl, rfl, rfl, rfl, rfl, rfl, rfl, rfl, rfl, rfl, rfl⟩
     ·rintro f17696 w17697 ⟨hS17683, e17684, e17685, e17686, e17687, e17688, e17689, e17690, e17691, e17692, e17693, e17694, e17695⟩
      refine c_know (t := 1) e17684 <| c_know (t := 4) e17685 <| c_know (t := 5) e17686 <| c_know (t := 8) e17687 <| c_know (t := 9) e17688 ?_
      refine c_know (t := 10) e17689 <| c_know (t := 11) e17690 <| c_know (t := 13) e17691 <| c_know (t := 14) e17692 <| c_know (t := 56) e17693 ?_
      refine c_know (t := 57) e17694 <| c_know (t := 58) e17695 ?_
      clear e17684 e17685 e17686 e17687 e17688 e17689 e17690 e17691 e17692 e17693 e17694 e17695
      refine c_seq <| c_region <| wl_h hS17683.toHeld (r_move (v := .int .i64 _) rfl) <| wl_h hS17683.toHeld (r_move (v := .slice _ _ _) rfl) <| wl_h hS17683.toHeld (r_move (v := .int .i64 _) rfl) ?_
      obtain ⟨x17698, hx17699, h17700, h17701, hM⟩ := getK_ok hM
      obtain ⟨b17702, rfl⟩ := row_some (hS17683.toHeld.own (.there .here)) hrc17329 (by decide) h17700 h17701
      obtain ⟨es17703, hes17704, hR17705⟩ := row_read hrc17329 hx17699
      obtain rfl := hR17705
      refine wl_h hS17683.toHeld (r_indexAddr Tryz.underlying187 ty3 (b := _) (o := _) (n := _) (c := _) (i := set16460) rfl rfl h17700 (row_lt (hS17683.toHeld.own (.there .here)) hrc17329 (by decide) h17701)) <| wl_h hS17683.toHeld (r_row ty3 (k := 0) (i := set16460.toNat) (.there .here) rfl rfl (row_room hrc17329 hx17699) hes17704 rfl (v := .int .i64 _) rfl) <| wl_h hS17683.toHeld (r_lss (a := _) (b := _) rfl rfl) <| wl_nil <| c_cond (c := _) rfl (fun h17706 => ?_) (fun h17706 => ?_)
      ·replace hM := bif_t h17706 hM
       refine c_region <| wl_h hS17683.toHeld (r_move (v := .slice _ _ _) rfl) <| wl_h hS17683.toHeld (r_move (v := .int .i64 _) rfl) <| wl_h hS17683.toHeld (r_move (v := .slice _ _ _) rfl) <| wl_h hS17683.toHeld (r_move (v := .int .i64 _) rfl) ?_
       refine wl_h hS17683.toHeld (r_move (v := .int .i64 _) rfl) <| wl_h hS17683.toHeld (r_move (v := .int .i64 _) rfl) ?_
       obtain ⟨x17707, hx17708, h17709, h17710, hM⟩ := getK_ok hM
       obtain ⟨es17711, hes17712, hR17713⟩ := row_read hrc17329 hx17708
       obtain rfl := hR17713
       refine wl_h hS17683.toHeld (r_indexAddr Tryz.underlying187 ty3 (b := _) (o := _) (n := _) (c := _) (i := set16460) rfl rfl h17709 (row_lt (hS17683.toHeld.own (.there .here)) hrc17329 (by decide) h17710)) <| wl_store_row ty3 hS17683 rfl (v := .int .i64 _) rfl (vs := [.int .i64 _]) rfl rfl rfl (.there .here) (Nat.le_trans (by simp only [Nat.zero_add]; omega) (row_room hrc17329 hx17708)) ?_
       intro w17714 hS17715
       have hrc17716 := RCs.seti hrc17329 hx17708 (vs := [.int .i64 (x17472.length + r17495)]) (y := x17472.length + r17495) rfl rfl
       generalize spl cs17327 (0 + set16460.toNat * 1) [.int .i64 (x17472.length + r17495)] = cs17717 at hS17715 hrc17716
       obtain ⟨x17718, hx17719, h17720, h17721, hM⟩ := getK_ok hM
       obtain ⟨b17722, rfl⟩ := row_some (hS17715.toHeld.own .here) hrc17322 (by decide) h17720 h17721
       obtain ⟨es17723, hes17724, hR17725⟩ := row_read hrc17322 hx17719
       obtain rfl := hR17725
       refine wl_h hS17715.toHeld (r_indexAddr Tryz.underlying26 ty3 (b := _) (o := _) (n := _) (c := _) (i := set16460) rfl rfl h17720 (row_lt (hS17715.toHeld.own .here) hrc17322 (by decide) h17721)) <| wl_store_row ty3 hS17715 rfl (v := .int .i64 _) rfl (vs := [.int .i64 _]) rfl rfl rfl .here (Nat.le_trans (by simp only [Nat.zero_add]; omega) (row_room hrc17322 hx17719)) ?_
       intro w17726 hS17727
       have hrc17728 := RCs.seti hrc17322 hx17719 (vs := [.int .i64 x17345]) (y := x17345) rfl rfl
       generalize spl cs17320 (0 + set16460.toNat * 1) [.int .i64 x17345] = cs17729 at hS17727 hrc17728
       refine wl_nil <| c_nil <| q_norm <| c_region ?_
       obtain ⟨hc17730, hM⟩ := chk_ok hM
       refine wl_h hS17727.toHeld (r_add (a := _) (b := _) rfl rfl (ok_lo hc17730) (ok_hi hc17730)) <| wl_h hS17727.toHeld (r_move (v := .int .i64 _) rfl) <| wl_nil <| c_nil <| q_loop ?_
       have hS17731 := hS17727.front (.there (.there .here))
       have hS17732 := hS17731.front (.there (.there (.there (.there .here))))
       have hS17733 := hS17732.front (.there (.there (.there (.there .here))))
       have hS17734 := hS17733.front (.there (.there (.there (.there .here))))
       have hS17735 := hS17734.front (.there (.there (.there (.there .here))))
       exact ⟨k_2, Nat.lt_succ_self _, x17315 + 1, (l17316.set set16460.toNat x17345), (l17323.set set16460.toNat (x17472.length + r17495)), (some ⟨b17722, 0, none⟩), l17316.length, c17319, cs17729, (some ⟨b17702, 0, none⟩), l17323.length, c17326, cs17717, hM, row_n (hS17735.toHeld.own .here) hrc17728 (by decide), hrc17728, row_n (hS17735.toHeld.own (.there .here)) hrc17716 (by decide), hrc17716, hS17735, rfl, rfl, rfl, rfl, rfl, rfl, rfl, rfl, rfl, rfl⟩
      ·replace hM := bif_f h17706 hM
       refine c_skip <| c_nil <| q_norm <| c_region ?_
       obtain ⟨hc17736, hM⟩ := chk_ok hM
       refine wl_h hS17683.toHeld (r_add (a := _) (b := _) rfl rfl (ok_lo hc17736) (ok_hi hc17736)) <| wl_h hS17683.toHeld (r_move (v := .int .i64 _) rfl) <| wl_nil <| c_nil <| q_loop ?_
       have hS17737 := hS17683.front (.there (.there .here))
       have hS17738 := hS17737.front (.there (.there (.there (.there .here))))
       have hS17739 := hS17738.front (.there (.there (.there (.there .here))))
       have hS17740 := hS17739.front (.there (.there (.there (.there .here))))
       have hS17741 := hS17740.front (.there (.there (.there (.there .here))))
       exact ⟨k_2, Nat.lt_succ_self _, x17315 + 1, l17316, l17323, a17317, l17316.length, c17319, cs17320, (some ⟨b17702, 0, none⟩), l17323.length, c17326, cs17327, hM, row_n (hS17741.toHeld.own .here) hrc17322 (by decide), hrc17322, row_n (hS17741.toHeld.own (.there .here)) hrc17329 (by decide), hrc17329, hS17741, rfl, rfl, rfl, rfl, rfl, rfl, rfl, rfl, rfl, rfl⟩
    ·replace hM := bif_f h17344 hM
     refine c_exit <| q_loopx <| q_hit <| c_nil <| q_norm <| c_region <| wl_h hS17333.toHeld (r_move (v := .int .i64 _) rfl) ?_
     obtain ⟨hc17742, hM⟩ := chk_ok hM
     refine wl_h hS17333.toHeld (r_add (a := _) (b := _) rfl rfl (ok_lo hc17742) (ok_hi hc17742)) <| wl_h hS17333.toHeld (r_assign (v := .int .i64 _) rfl) <| wl_nil <| c_nil <| q_loop ?_
     exact ⟨k_1, Nat.lt_succ_self _, set16460 + 1, l17316, l17323, m16509, a17317, l17316.length, c17319, cs17320, a17324, l17323.length, c17326, cs17327, hM, le16515, row_n (hS17333.toHeld.own .here) hrc17322 (by decide), hrc17322, row_n (hS17333.toHeld.own (.there .here)) hrc17329 (by decide), hrc17329, hS17333, rfl, rfl, rfl, rfl, rfl, rfl⟩
   ·replace hM := bif_f h16485 hM
    refine c_exit <| q_loopx <| q_hit <| c_seq <| c_region <| wl_h hS16478.toHeld (r_fieldAddr fld41_1 (b := _) (o := _) rfl) ?_
    refine wl_h hS16478.toHeld (r_box ty39 (k := 1) (.there (.there (.there (.there .here)))) rfl rfl rfl (v := .slice _ _ _) rfl) <| wl_h hS16478.toHeld (r_len Tryz.underlying39 (a := _) (n := _) (c := _) rfl) ?_
    obtain ⟨hc17745, hM⟩ := chk_ok hM
    refine wl_makeSlice Tryz.underlying26 ty3 rfl (by decide) hS16478 (l := _) (c := _) rfl rfl (mk_0 hc17745) (mk_1 hc17745) (mk_2 hc17745 (by decide)) (mk_3 hc17745) ?_
    intro b17743 w17744 hS17746
    have hrc17748 : RCs 1 RInt m16456 (reps [.int .i64 0] ((r3.streets.length : Nat) : Int).toNat) ((List.replicate ((r3.streets.length : Nat) : Int).toNat 0 : List Int) : List Int) := RCs.reps rfl rfl _
    refine wl_h hS17746.toHeld (r_assign (v := .slice _ _ _) rfl) <| wl_nil <| c_seq <| c_seq <| c_region <| wl_h hS17746.toHeld (r_move (v := .slice _ _ _) rfl) ?_
    refine wl_h hS17746.toHeld (r_len Tryz.underlying187 (a := _) (n := _) (c := _) rfl) ?_
    obtain ⟨hc17749, hM⟩ := chk_ok hM
    refine wl_h hS17746.toHeld (r_sub (a := _) (b := _) rfl rfl (ok_lo hc17749) (ok_hi hc17749)) <| wl_h hS17746.toHeld (r_assign (v := .int .i64 _) rfl) <| wl_nil <| c_block <| c_loop (fun k f w => ∃ (set18640 : Int) (l18641 : List Int) (a18642 : Option Addr) (n18643 : Nat) (c18644 : Nat) (cs18645 : List Value), mg80_l3 fuel r12 l11079 l16461 l16468 k set18640 l18641 = some r ∧ n18643 = l18641.length ∧ RCs 1 RInt m16456 cs18645 l18641 ∧ St w m16456 (.row (.slice a18642 n18643 c18644) 3 1 cs18645 :: .row (.slice a16462 l16461.length c16464) 3 1 cs16465 :: .row (.slice a16469 l16468.length c16471) 3 1 cs16472 :: .row (.slice a11080 l11079.length c11082) 185 1 cs11083 :: .row (.slice a15 r12.length c17) 3 1 cs18 :: .box b9 41 [.int .i64 r3.corners, .slice a4 r3.streets.length c6] :: L) ∧ f 4 = .slice a15 r12.length c17 ∧ f 5 = .slice a11080 l11079.length c11082 ∧ f 8 = .slice a16469 l16468.length c16471 ∧ f 9 = .slice a16462 l16461.length c16464 ∧ f 15 = .slice a18642 n18643 c18644 ∧ f 16 = .int .i64 set18640) fuel ⟨((l16468.length : Nat) : Int) - 1, (List.replicate ((r3.streets.length : Nat) : Int).toNat 0 : List Int), (some ⟨b17743, 0, none⟩), ((r3.streets.length : Nat) : Int).toNat, ((r3.streets.length : Nat) : Int).toNat, reps [.int .i64 0] ((r3.streets.length : Nat) : Int).toNat, hM, row_n (hS17746.toHeld.own .here) hrc17748 (by decide), hrc17748, hS17746, rfl, rfl, rfl, rfl, rfl, rfl⟩ ?_
    rintro k_3 f18648 w18649 ⟨set18640, l18641, a18642, n18643, c18644, cs18645, hM, hn18646, hrc18647, hS18651, e18652, e18653, e18654, e18655, e18656, e18657⟩
    subst hn18646
    refine c_know (t := 4) e18652 <| c_know (t := 5) e18653 <| c_know (t := 8) e18654 <| c_know (t := 9) e18655 <| c_know (t := 15) e18656 ?_
    refine c_know (t := 16) e18657 ?_
    clear e18652 e18653 e18654 e18655 e18656 e18657
    rcases k_3 with _ | k_3
    · exact none_ne hM
    rw [mg80_l3] at hM
    refine c_seq <| c_seq <| c_region <| wl_h hS18651.toHeld (r_move (v := .int .i64 _) rfl) <| wl_h hS18651.toHeld (r_gtr (a := _) (b := _) rfl rfl) ?_
    refine wl_nil <| c_cond (c := _) rfl (fun h18658 => ?_) (fun h18658 => ?_)
    ·replace hM := bif_t h18658 hM
     refine c_skip <| c_block <| c_seq ?_
     obtain ⟨x18692, hx18693, h18694, h18695, hM⟩ := getK_ok hM
     obtain ⟨r18700, hq18701, hM⟩ := bnd_ok hM
     obtain ⟨x18712, hx18713, h18714, h18715, hM⟩ := getK_ok hM
     have hH18723 := (hS18651.weaken (.cons_cons _ (.cons _ (.cons_cons _ (.cons_cons _ (.cons_cons _ (.cons_cons _ (.refl _)))))))).toHeld
     refine c_drawJ (k := 10) (fun f w => St w m16456 (.row (.slice a18642 l18641.length c18644) 3 1 cs18645 :: .row (.slice a16462 l16461.length c16464) 3 1 cs16465 :: .row (.slice a16469 l16468.length c16471) 3 1 cs16472 :: .row (.slice a11080 l11079.length c11082) 185 1 cs11083 :: .row (.slice a15 r12.length c17) 3 1 cs18 :: .box b9 41 [.int .i64 r3.corners, .slice a4 r3.streets.length c6] :: L) ∧ f 4 = .slice a15 r12.length c17 ∧ f 5 = .slice a11080 l11079.length c11082 ∧ f 8 = .slice a16469 l16468.length c16471 ∧ f 9 = .slice a16462 l16461.length c16464 ∧ f 15 = .slice a18642 l18641.length c18644 ∧ f 16 = .int .i64 set18640 ∧ f 17 = .int .i64 x18712 ∧ f 18 = .int .i64 x18692) (fun w => Held w m16456 (.row (.slice a18642 l18641.length c18644) 3 1 cs18645 :: .row (.slice a16469 l16468.length c16471) 3 1 cs16472 :: .row (.slice a11080 l11079.length c11082) 185 1 cs11083 :: .row (.slice a15 r12.length c17) 3 1 cs18 :: .box b9 41 [.int .i64 r3.corners, .slice a4 r3.streets.length c6] :: L)) mixed rfl ?_ ?_
     ·replace hH18723 := hH18723.drew1
      have hS18724 := hS18651.drew1
      refine d_v (i := 0) rfl (by kernel_rfl) rfl (r_move (v := .int .i64 _) rfl) hH18723 ?_
      refine d_v (i := 4) rfl (by kernel_rfl) rfl (r_move (v := .slice _ _ _) rfl) hH18723 ?_
      refine d_v (i := 5) rfl (by kernel_rfl) rfl (r_move (v := .int .i64 _) rfl) hH18723 ?_
      obtain ⟨b18725, rfl⟩ := row_some (hS18724.toHeld.own (.there .here)) hrc16467 (by decide) h18694 h18695
      obtain ⟨es18726, hes18727, hR18728⟩ := row_read hrc16467 hx18693
      obtain rfl := hR18728
      refine d_v (i := 6) rfl (by kernel_rfl) rfl (r_indexAddr Tryz.underlying26 ty3 (b := _) (o := _) (n := _) (c := _) (i := set18640) rfl rfl h18694 (row_lt (hS18724.toHeld.own (.there .here)) hrc16467 (by decide) h18695)) hH18723 ?_
      refine d_all (rs := [1, 7]) (by kernel_rfl) (by simp) (fun j hj o ho => ?_)
      simp only [List.mem_cons, List.not_mem_nil, or_false] at hj
      rcases hj with rfl | rfl
      ·cases ho
       refine wl_call ent121 (vals := [.int .i64 _]) rfl (cg121 hS18724 hq18701) ?_
       rintro _ w18736 ⟨a18730, n18731, c18732, cs18733, rfl, rfl, hrc18734, hS18737⟩
       refine wl_nil ?_
       have hH18738 := hS18737.toHeld.mono (Mem.le_refl _) (List.Sublist.subset (.cons _ (.cons_cons _ (.cons _ (.cons_cons _ (.cons_cons _ (.cons_cons _ (.cons_cons _ (.refl _)))))))))
       refine ⟨hH18738, ?_⟩
       obtain ⟨b18739, rfl⟩ := row_some (hS18737.toHeld.own .here) hrc18734 (by decide) h18714 h18715
       obtain ⟨es18740, hes18741, hR18742⟩ := row_read hrc18734 hx18713
       obtain rfl := hR18742
       refine d_v (i := 2) rfl (by kernel_rfl) rfl (r_indexAddr Tryz.underlying26 ty3 (b := _) (o := _) (n := _) (c := _) (i := 0) rfl rfl h18714 (row_lt (hS18737.toHeld.own .here) hrc18734 (by decide) h18715)) hH18738 ?_
       refine d_all (rs := [3, 7]) (by kernel_rfl) (by simp) (fun j hj o ho => ?_)
       simp only [List.mem_cons, List.not_mem_nil, or_false] at hj
       rcases hj with rfl | rfl
       ·cases ho
        refine wl_h hS18737.toHeld (r_row ty3 (k := 0) (i := (0 : Int).toNat) .here rfl rfl (row_room hrc18734 hx18713) hes18741 rfl (v := .int .i64 _) rfl) <| wl_nil ?_
        have hH18743 := hS18737.toHeld.mono (Mem.le_refl _) (List.Sublist.subset (.cons _ (.cons_cons _ (.cons _ (.cons_cons _ (.cons_cons _ (.cons_cons _ (.cons_cons _ (.refl _)))))))))
        refine ⟨hH18743, ?_⟩
        refine d_v (i := 8) rfl (by kernel_rfl) rfl (r_assign (v := .int .i64 _) rfl) hH18743 ?_
        refine d_all (rs := [7]) (by kernel_rfl) (by simp) (fun j hj o ho => ?_)
        obtain rfl : j = 7 := by simpa using hj
        cases ho
        refine wl_h hS18737.toHeld (r_row ty3 (k := 0) (i := set18640.toNat) (.there (.there .here)) rfl rfl (row_room hrc16467 hx18693) hes18727 rfl (v := .int .i64 _) rfl) <| wl_nil ?_
        have hH18744 := hS18737.toHeld.mono (Mem.le_refl _) (List.Sublist.subset (.cons _ (.cons_cons _ (.cons _ (.cons_cons _ (.cons_cons _ (.cons_cons _ (.cons_cons _ (.refl _)))))))))
        refine ⟨hH18744, ?_⟩
        refine d_v (i := 9) rfl (by kernel_rfl) rfl (r_assign (v := .int .i64 _) rfl) hH18744 ?_
        refine d_end (by kernel_rfl) ?_
        have hS18745 := hS18737.weaken (.cons _ (.cons_cons _ (.cons_cons _ (.cons_cons _ (.cons_cons _ (.cons_cons _ (.cons_cons _ (.refl _))))))))
        exact ⟨hS18745, rfl, rfl, rfl, rfl, rfl, rfl, rfl, rfl⟩
       ·cases ho
        refine wl_h hS18737.toHeld (r_row ty3 (k := 0) (i := set18640.toNat) (.there (.there .here)) rfl rfl (row_room hrc16467 hx18693) hes18727 rfl (v := .int .i64 _) rfl) <| wl_nil ?_
        have hH18746 := hS18737.toHeld.mono (Mem.le_refl _) (List.Sublist.subset (.cons _ (.cons_cons _ (.cons _ (.cons_cons _ (.cons_cons _ (.cons_cons _ (.cons_cons _ (.refl _)))))))))
        refine ⟨hH18746, ?_⟩
        refine d_all (rs := [3]) (by kernel_rfl) (by simp) (fun j hj o ho => ?_)
        obtain rfl : j = 3 := by simpa using hj
        cases ho
        refine wl_h hS18737.toHeld (r_row ty3 (k := 0) (i := (0 : Int).toNat) .here rfl rfl (row_room hrc18734 hx18713) hes18741 rfl (v := .int .i64 _) rfl) <| wl_nil ?_
        have hH18747 := hS18737.toHeld.mono (Mem.le_refl _) (List.Sublist.subset (.cons _ (.cons_cons _ (.cons _ (.cons_cons _ (.cons_cons _ (.cons_cons _ (.cons_cons _ (.refl _)))))))))
        refine ⟨hH18747, ?_⟩
        refine d_v (i := 8) rfl (by kernel_rfl) rfl (r_assign (v := .int .i64 _) rfl) hH18747 ?_
        refine d_v (i := 9) rfl (by kernel_rfl) rfl (r_assign (v := .int .i64 _) rfl) hH18747 ?_
        refine d_end (by kernel_rfl) ?_
        have hS18748 := hS18737.weaken (.cons _ (.cons_cons _ (.cons_cons _ (.cons_cons _ (.cons_cons _ (.cons_cons _ (.cons_cons _ (.refl _))))))))
        exact ⟨hS18748, rfl, rfl, rfl, rfl, rfl, rfl, rfl, rfl⟩
      ·cases ho
       refine wl_h hS18724.toHeld (r_row ty3 (k := 0) (i := set18640.toNat) (.there .here) rfl rfl (row_room hrc16467 hx18693) hes18727 rfl (v := .int .i64 _) rfl) <| wl_nil ?_
       have hH18749 := hS18724.toHeld.mono (Mem.le_refl _) (List.Sublist.subset (.cons_cons _ (.cons _ (.cons_cons _ (.cons_cons _ (.cons_cons _ (.cons_cons _ (.refl _))))))))
       refine ⟨hH18749, ?_⟩
       refine d_all (rs := [1]) (by kernel_rfl) (by simp) (fun j hj o ho => ?_)
       obtain rfl : j = 1 := by simpa using hj
       cases ho
       refine wl_call ent121 (vals := [.int .i64 _]) rfl (cg121 hS18724 hq18701) ?_
       rintro _ w18757 ⟨a18751, n18752, c18753, cs18754, rfl, rfl, hrc18755, hS18758⟩
       refine wl_nil ?_
       have hH18759 := hS18758.toHeld.mono (Mem.le_refl _) (List.Sublist.subset (.cons _ (.cons_cons _ (.cons _ (.cons_cons _ (.cons_cons _ (.cons_cons _ (.cons_cons _ (.refl _)))))))))
       refine ⟨hH18759, ?_⟩
       obtain ⟨b18760, rfl⟩ := row_some (hS18758.toHeld.own .here) hrc18755 (by decide) h18714 h18715
       obtain ⟨es18761, hes18762, hR18763⟩ := row_read hrc18755 hx18713
       obtain rfl := hR18763
       refine d_v (i := 2) rfl (by kernel_rfl) rfl (r_indexAddr Tryz.underlying26 ty3 (b := _) (o := _) (n := _) (c := _) (i := 0) rfl rfl h18714 (row_lt (hS18758.toHeld.own .here) hrc18755 (by decide) h18715)) hH18759 ?_
       refine d_all (rs := [3]) (by kernel_rfl) (by simp) (fun j hj o ho => ?_)
       obtain rfl : j = 3 := by simpa using hj
       cases ho
       refine wl_h hS18758.toHeld (r_row ty3 (k := 0) (i := (0 : Int).toNat) .here rfl rfl (row_room hrc18755 hx18713) hes18762 rfl (v := .int .i64 _) rfl) <| wl_nil ?_
       have hH18764 := hS18758.toHeld.mono (Mem.le_refl _) (List.Sublist.subset (.cons _ (.cons_cons _ (.cons _ (.cons_cons _ (.cons_cons _ (.cons_cons _ (.cons_cons _ (.refl _)))))))))
       refine ⟨hH18764, ?_⟩
       refine d_v (i := 8) rfl (by kernel_rfl) rfl (r_assign (v := .int .i64 _) rfl) hH18764 ?_
       refine d_v (i := 9) rfl (by kernel_rfl) rfl (r_assign (v := .int .i64 _) rfl) hH18764 ?_
       refine d_end (by kernel_rfl) ?_
       have hS18765 := hS18758.weaken (.cons _ (.cons_cons _ (.cons_cons _ (.cons_cons _ (.cons_cons _ (.cons_cons _ (.cons_cons _ (.refl _))))))))
       exact ⟨hS18765, rfl, rfl, rfl, rfl, rfl, rfl, rfl, rfl⟩
     ·rintro f18775 w18776 ⟨hS18766, e18767, e18768, e18769, e18770, e18771, e18772, e18773, e18774⟩
      refine c_know (t := 4) e18767 <| c_know (t := 5) e18768 <| c_know (t := 8) e18769 <| c_know (t := 9) e18770 <| c_know (t := 15) e18771 ?_
      refine c_know (t := 16) e18772 <| c_know (t := 17) e18773 <| c_know (t := 18) e18774 ?_
      clear e18767 e18768 e18769 e18770 e18771 e18772 e18773 e18774
      refine c_seq <| c_seq ?_
      obtain ⟨x18816, hx18817, h18818, h18819, hM⟩ := getK_ok hM
      obtain ⟨x18828, hx18829, h18830, h18831, hM⟩ := getK_ok hM
      obtain ⟨x18838, hx18839, h18840, h18841, hM⟩ := getK_ok hM
      have hH18857 := (hS18766.weaken (.cons_cons _ (.cons_cons _ (.cons_cons _ (.cons _ (.cons _ (.cons_cons _ (.refl _)))))))).toHeld
      refine c_drawJ (k := 13) (fun f w => ∃ (a18853 : Option Addr) (n18854 : Nat) (c18855 : Nat), RSl 1 RInt m16456 a18853 n18854 c18855 (x18838.along.getD []) ∧ St w m16456 (.row (.slice a18642 l18641.length c18644) 3 1 cs18645 :: .row (.slice a16462 l16461.length c16464) 3 1 cs16465 :: .row (.slice a16469 l16468.length c16471) 3 1 cs16472 :: .row (.slice a11080 l11079.length c11082) 185 1 cs11083 :: .row (.slice a15 r12.length c17) 3 1 cs18 :: .box b9 41 [.int .i64 r3.corners, .slice a4 r3.streets.length c6] :: L) ∧ f 4 = .slice a15 r12.length c17 ∧ f 5 = .slice a11080 l11079.length c11082 ∧ f 8 = .slice a16469 l16468.length c16471 ∧ f 9 = .slice a16462 l16461.length c16464 ∧ f 15 = .slice a18642 l18641.length c18644 ∧ f 16 = .int .i64 set18640 ∧ f 17 = .int .i64 x18712 ∧ f 18 = .int .i64 x18692 ∧ f 129 = .slice a18853 n18854 c18855 ∧ f 130 = .int .i64 (((x18838.along.getD []).length : Nat) : Int) ∧ f 131 = .int .i64 0) (fun w => Held w m16456 (.row (.slice a18642 l18641.length c18644) 3 1 cs18645 :: .row (.slice a16462 l16461.length c16464) 3 1 cs16465 :: .row (.slice a16469 l16468.length c16471) 3 1 cs16472 :: .box b9 41 [.int .i64 r3.corners, .slice a4 r3.streets.length c6] :: L)) mixed rfl ?_ ?_
      ·replace hH18857 := hH18857.drew1
       have hS18858 := hS18766.drew1
       refine d_v (i := 0) rfl (by kernel_rfl) rfl (r_move (v := .slice _ _ _) rfl) hH18857 ?_
       refine d_v (i := 1) rfl (by kernel_rfl) rfl (r_move (v := .int .i64 _) rfl) hH18857 ?_
       obtain ⟨b18859, rfl⟩ := row_some (hS18858.toHeld.own (.there (.there (.there .here)))) hrc11085 (by decide) h18818 h18819
       obtain ⟨es18860, hes18861, hR18862⟩ := row_read hrc11085 hx18817
       obtain ⟨a18863, n18864, c18865, rfl, hr18866⟩ := hR18862
       obtain rfl := hr18866.1
       refine d_v (i := 2) rfl (by kernel_rfl) rfl (r_indexAddr Tryz.underlying184 ty185 (b := _) (o := _) (n := _) (c := _) (i := x18712) rfl rfl h18818 (row_lt (hS18858.toHeld.own (.there (.there (.there .here)))) hrc11085 (by decide) h18819)) hH18857 ?_
       refine d_v (i := 4) rfl (by kernel_rfl) rfl (r_move (v := .slice _ _ _) rfl) hH18857 ?_
       refine d_v (i := 5) rfl (by kernel_rfl) rfl (r_move (v := .int .i64 _) rfl) hH18857 ?_
       obtain ⟨b18867, rfl⟩ := row_some (hS18858.toHeld.own (.there (.there (.there (.there .here))))) hrc19 (by decide) h18830 h18831
       obtain ⟨es18868, hes18869, hR18870⟩ := row_read hrc19 hx18829
       obtain rfl := hR18870
       refine d_v (i := 6) rfl (by kernel_rfl) rfl (r_indexAddr Tryz.underlying26 ty3 (b := _) (o := _) (n := _) (c := _) (i := x18692) rfl rfl h18830 (row_lt (hS18858.toHeld.own (.there (.there (.there (.there .here))))) hrc19 (by decide) h18831)) hH18857 ?_
       refine d_v (i := 12) rfl (by kernel_rfl) rfl (r_move (v := .int .i64 _) rfl) hH18857 ?_
       refine d_all (rs := [3, 7]) (by kernel_rfl) (by simp) (fun j hj o ho => ?_)
       simp only [List.mem_cons, List.not_mem_nil, or_false] at hj
       rcases hj with rfl | rfl
       ·cases ho
        refine wl_h hS18858.toHeld (r_row ty185 (k := 0) (i := x18712.toNat) (.there (.there (.there .here))) rfl rfl (row_room hrc11085 hx18817) hes18861 rfl (v := .slice _ _ _) rfl) <| wl_nil ?_
        have hH18871 := hS18858.toHeld.mono (Mem.le_refl _) (List.Sublist.subset (.cons_cons _ (.cons_cons _ (.cons_cons _ (.cons _ (.cons _ (.cons_cons _ (.refl _))))))))
        refine ⟨hH18871, ?_⟩
        refine d_all (rs := [7]) (by kernel_rfl) (by simp) (fun j hj o ho => ?_)
        obtain rfl : j = 7 := by simpa using hj
        cases ho
        refine wl_h hS18858.toHeld (r_row ty3 (k := 0) (i := x18692.toNat) (.there (.there (.there (.there .here)))) rfl rfl (row_room hrc19 hx18829) hes18869 rfl (v := .int .i64 _) rfl) <| wl_nil ?_
        have hH18872 := hS18858.toHeld.mono (Mem.le_refl _) (List.Sublist.subset (.cons_cons _ (.cons_cons _ (.cons_cons _ (.cons _ (.cons _ (.cons_cons _ (.refl _))))))))
        refine ⟨hH18872, ?_⟩
        obtain ⟨b18873, o18874, rfl⟩ := RSl.elem_a hr18866 hx18839
        obtain ⟨cs18875, hI18876, hR18877⟩ := RSl.elem_at hr18866 hx18839
        have hk18882 := hR18877
        obtain ⟨a18878, n18879, c18880, rfl, hr18881⟩ := hR18877
        obtain rfl := (ROp.rsl hr18881).1
        refine d_v (i := 8) rfl (by kernel_rfl) rfl (r_indexAddr Tryz.underlying185 ty190 (b := _) (o := _) (n := _) (c := _) (i := x18828) rfl rfl h18840 (RSl.lt hr18866 h18841)) hH18872 ?_
        refine d_v (i := 9) rfl (by kernel_rfl) rfl (r_fieldAddr fld190_1 (b := _) (o := _) rfl) hH18872 ?_
        refine d_v (i := 10) rfl (by kernel_rfl) rfl (r_imm ty26 (k := 1) hI18876 rfl rfl rfl (v := .slice _ _ _) rfl) hH18872 ?_
        have hr18883 := ROp.rsl hr18881
        refine d_v (i := 11) rfl (by kernel_rfl) rfl (r_len Tryz.underlying26 (a := _) (n := _) (c := _) rfl) hH18872 ?_
        refine d_end (by kernel_rfl) ?_
        exact ⟨_, _, _, hr18883, hS18858, rfl, rfl, rfl, rfl, rfl, rfl, rfl, rfl, rfl, rfl, rfl⟩
       ·cases ho
        refine wl_h hS18858.toHeld (r_row ty3 (k := 0) (i := x18692.toNat) (.there (.there (.there (.there .here)))) rfl rfl (row_room hrc19 hx18829) hes18869 rfl (v := .int .i64 _) rfl) <| wl_nil ?_
        have hH18884 := hS18858.toHeld.mono (Mem.le_refl _) (List.Sublist.subset (.cons_cons _ (.cons_cons _ (.cons_cons _ (.cons _ (.cons _ (.cons_cons _ (.refl _))))))))
        refine ⟨hH18884, ?_⟩
        refine d_all (rs := [3]) (by kernel_rfl) (by simp) (fun j hj o ho => ?_)
        obtain rfl : j = 3 := by simpa using hj
        cases ho
        refine wl_h hS18858.toHeld (r_row ty185 (k := 0) (i := x18712.toNat) (.there (.there (.there .here))) rfl rfl (row_room hrc11085 hx18817) hes18861 rfl (v := .slice _ _ _) rfl) <| wl_nil ?_
        have hH18885 := hS18858.toHeld.mono (Mem.le_refl _) (List.Sublist.subset (.cons_cons _ (.cons_cons _ (.cons_cons _ (.cons _ (.cons _ (.cons_cons _ (.refl _))))))))
        refine ⟨hH18885, ?_⟩
        obtain ⟨b18886, o18887, rfl⟩ := RSl.elem_a hr18866 hx18839
        obtain ⟨cs18888, hI18889, hR18890⟩ := RSl.elem_at hr18866 hx18839
        have hk18895 := hR18890
        obtain ⟨a18891, n18892, c18893, rfl, hr18894⟩ := hR18890
        obtain rfl := (ROp.rsl hr18894).1
        refine d_v (i := 8) rfl (by kernel_rfl) rfl (r_indexAddr Tryz.underlying185 ty190 (b := _) (o := _) (n := _) (c := _) (i := x18828) rfl rfl h18840 (RSl.lt hr18866 h18841)) hH18885 ?_
        refine d_v (i := 9) rfl (by kernel_rfl) rfl (r_fieldAddr fld190_1 (b := _) (o := _) rfl) hH18885 ?_
        refine d_v (i := 10) rfl (by kernel_rfl) rfl (r_imm ty26 (k := 1) hI18889 rfl rfl rfl (v := .slice _ _ _) rfl) hH18885 ?_
        have hr18896 := ROp.rsl hr18894
        refine d_v (i := 11) rfl (by kernel_rfl) rfl (r_len Tryz.underlying26 (a := _) (n := _) (c := _) rfl) hH18885 ?_
        refine d_end (by kernel_rfl) ?_
        exact ⟨_, _, _, hr18896, hS18858, rfl, rfl, rfl, rfl, rfl, rfl, rfl, rfl, rfl, rfl, rfl⟩
      ·rintro f18909 w18910 ⟨a18853, n18854, c18855, hr18856, hS18897, e18898, e18899, e18900, e18901, e18902, e18903, e18904, e18905, e18906, e18907, e18908⟩
       obtain rfl := hr18856.1
       refine c_know (t := 4) e18898 <| c_know (t := 5) e18899 <| c_know (t := 8) e18900 <| c_know (t := 9) e18901 <| c_know (t := 15) e18902 ?_
       refine c_know (t := 16) e18903 <| c_know (t := 17) e18904 <| c_know (t := 18) e18905 <| c_know (t := 129) e18906 <| c_know (t := 130) e18907 ?_
       refine c_know (t := 131) e18908 ?_
       clear e18898 e18899 e18900 e18901 e18902 e18903 e18904 e18905 e18906 e18907 e18908
       refine c_block <| c_loop (fun k f w => ∃ (x19000 : Int) (l19001 : List Int) (a19002 : Option Addr) (n19003 : Nat) (c19004 : Nat) (cs19005 : List Value), mg80_l4 fuel set18640 x18692 x18712 x18838 (mg80_l3 fuel r12 l11079 l16461 l16468 k_3) k x19000 l19001 = some r ∧ n19003 = l19001.length ∧ RCs 1 RInt m16456 cs19005 l19001 ∧ St w m16456 (.row (.slice a19002 n19003 c19004) 3 1 cs19005 :: .row (.slice a16462 l16461.length c16464) 3 1 cs16465 :: .row (.slice a16469 l16468.length c16471) 3 1 cs16472 :: .row (.slice a11080 l11079.length c11082) 185 1 cs11083 :: .row (.slice a15 r12.length c17) 3 1 cs18 :: .box b9 41 [.int .i64 r3.corners, .slice a4 r3.streets.length c6] :: L) ∧ f 4 = .slice a15 r12.length c17 ∧ f 5 = .slice a11080 l11079.length c11082 ∧ f 8 = .slice a16469 l16468.length c16471 ∧ f 9 = .slice a16462 l16461.length c16464 ∧ f 15 = .slice a19002 n19003 c19004 ∧ f 16 = .int .i64 set18640 ∧ f 17 = .int .i64 x18712 ∧ f 18 = .int .i64 x18692 ∧ f 129 = .slice a18853 ((x18838.along.getD []).length) c18855 ∧ f 130 = .int .i64 (((x18838.along.getD []).length : Nat) : Int) ∧ f 131 = .int .i64 x19000) fuel ⟨0, l18641, a18642, l18641.length, c18644, cs18645, hM, row_n (hS18897.toHeld.own .here) hrc18647 (by decide), hrc18647, hS18897, rfl, rfl, rfl, rfl, rfl, rfl, rfl, rfl, rfl, rfl, rfl⟩ ?_
       rintro k_4 f19008 w19009 ⟨x19000, l19001, a19002, n19003, c19004, cs19005, hM, hn19006, hrc19007, hS19011, e19012, e19013, e19014, e19015, e19016, e19017, e19018, e19019, e19020, e19021, e19022⟩
       subst hn19006
       refine c_know (t := 4) e19012 <| c_know (t := 5) e19013 <| c_know (t := 8) e19014 <| c_know (t := 9) e19015 <| c_know (t := 15) e19016 ?_
       refine c_know (t := 16) e19017 <| c_know (t := 17) e19018 <| c_know (t := 18) e19019 <| c_know (t := 129) e19020 <| c_know (t := 130) e19021 ?_
       refine c_know (t := 131) e19022 ?_
       clear e19012 e19013 e19014 e19015 e19016 e19017 e19018 e19019 e19020 e19021 e19022
       rcases k_4 with _ | k_4
       · exact none_ne hM
       rw [mg80_l4] at hM
       refine c_seq <| c_region <| wl_h hS19011.toHeld (r_lss (a := _) (b := _) rfl rfl) <| wl_nil <| c_seq <| c_cond (c := _) rfl (fun h19023 => ?_) (fun h19023 => ?_)
       ·replace hM := bif_t h19023 hM
        refine c_skip <| c_seq <| c_block <| c_seq <| c_region <| wl_h hS19011.toHeld (r_move (v := .int .i64 _) rfl) ?_
        obtain ⟨x19024, hx19025, h19026, h19027, hM⟩ := getK_ok hM
        obtain ⟨b19028, o19029, rfl⟩ := RSl.elem_a hr18856 hx19025
        obtain ⟨cs19030, hI19031, hR19032⟩ := RSl.elem_at hr18856 hx19025
        obtain rfl := hR19032
        refine wl_h hS19011.toHeld (r_indexAddr Tryz.underlying26 ty3 (b := _) (o := _) (n := _) (c := _) (i := x19000) rfl rfl h19026 (RSl.lt hr18856 h19027)) <| wl_h hS19011.toHeld (r_imm ty3 (k := 0) hI19031 rfl rfl rfl (v := .int .i64 _) rfl) <| wl_h hS19011.toHeld (r_assign (v := .int .i64 _) rfl) <| wl_h hS19011.toHeld (r_assign (v := .int .i64 _) rfl) <| wl_nil <| c_region <| wl_h hS19011.toHeld (r_move (v := .slice _ _ _) rfl) ?_
        refine wl_h hS19011.toHeld (r_move (v := .int .i64 _) rfl) <| wl_h hS19011.toHeld (r_move (v := .slice _ _ _) rfl) <| wl_h hS19011.toHeld (r_move (v := .int .i64 _) rfl) ?_
        obtain ⟨x19033, hx19034, h19035, h19036, hM⟩ := getK_ok hM
        obtain ⟨b19037, rfl⟩ := row_some (hS19011.toHeld.own .here) hrc19007 (by decide) h19035 h19036
        obtain ⟨es19038, hes19039, hR19040⟩ := row_read hrc19007 hx19034
        obtain rfl := hR19040
        refine wl_h hS19011.toHeld (r_indexAddr Tryz.underlying26 ty3 (b := _) (o := _) (n := _) (c := _) (i := x19000) rfl rfl h19035 (row_lt (hS19011.toHeld.own .here) hrc19007 (by decide) h19036)) <| wl_h hS19011.toHeld (r_row ty3 (k := 0) (i := x19000.toNat) .here rfl rfl (row_room hrc19007 hx19034) hes19039 rfl (v := .int .i64 _) rfl) <| wl_h hS19011.toHeld (r_move (v := .int .i64 _) rfl) ?_
        obtain ⟨hc19041, hM⟩ := chk_ok hM
        refine wl_h hS19011.toHeld (r_add (a := _) (b := _) rfl rfl (ok_lo hc19041) (ok_hi hc19041)) ?_
        obtain ⟨hc19042, hM⟩ := chk_ok hM
        refine wl_h hS19011.toHeld (r_remk (a := _) (b := _) rfl rfl hc19042) ?_
        obtain ⟨x19043, hx19044, h19045, h19046, hM⟩ := getK_ok hM
        obtain ⟨es19047, hes19048, hR19049⟩ := row_read hrc19007 hx19044
        obtain rfl := hR19049
        refine wl_h hS19011.toHeld (r_indexAddr Tryz.underlying26 ty3 (b := _) (o := _) (n := _) (c := _) (i := x19000) rfl rfl h19045 (row_lt (hS19011.toHeld.own .here) hrc19007 (by decide) h19046)) <| wl_store_row ty3 hS19011 rfl (v := .int .i64 _) rfl (vs := [.int .i64 _]) rfl rfl rfl .here (Nat.le_trans (by simp only [Nat.zero_add]; omega) (row_room hrc19007 hx19044)) ?_
        intro w19050 hS19051
        have hrc19052 := RCs.seti hrc19007 hx19044 (vs := [.int .i64 ((x19033 + x19024).tmod 2)]) (y := (x19033 + x19024).tmod 2) rfl rfl
        generalize spl cs19005 (0 + x19000.toNat * 1) [.int .i64 ((x19033 + x19024).tmod 2)] = cs19053 at hS19051 hrc19052
        refine wl_nil <| c_nil <| q_norm <| c_region ?_
        obtain ⟨hc19054, hM⟩ := chk_ok hM
        refine wl_h hS19051.toHeld (r_add (a := _) (b := _) rfl rfl (ok_lo hc19054) (ok_hi hc19054)) <| wl_h hS19051.toHeld (r_move (v := .int .i64 _) rfl) <| wl_nil <| c_nil <| q_loop ?_
        exact ⟨k_4, Nat.lt_succ_self _, x19000 + 1, (l19001.set x19000.toNat ((x19033 + x19024).tmod 2)), (some ⟨b19037, 0, none⟩), l19001.length, c19004, cs19053, hM, row_n (hS19051.toHeld.own .here) hrc19052 (by decide), hrc19052, hS19051, rfl, rfl, rfl, rfl, rfl, rfl, rfl, rfl, rfl, rfl, rfl⟩
       ·replace hM := bif_f h19023 hM
        refine c_exit <| q_loopx <| q_hit ?_
        have hH19059 := (hS19011.weaken (.cons_cons _ (.cons_cons _ (.cons_cons _ (.cons_cons _ (.cons_cons _ (.cons_cons _ (.refl _)))))))).toHeld
        refine c_draw (k := 8) (fun w => Held w m16456 (.row (.slice a19002 l19001.length c19004) 3 1 cs19005 :: .row (.slice a16462 l16461.length c16464) 3 1 cs16465 :: .row (.slice a16469 l16468.length c16471) 3 1 cs16472 :: .row (.slice a11080 l11079.length c11082) 185 1 cs11083 :: .row (.slice a15 r12.length c17) 3 1 cs18 :: .box b9 41 [.int .i64 r3.corners, .slice a4 r3.streets.length c6] :: L)) mixed rfl ?_
        replace hH19059 := hH19059.drew1
        have hS19060 := hS19011.drew1
        refine d_v (i := 0) rfl (by kernel_rfl) rfl (r_move (v := .int .i64 _) rfl) hH19059 ?_
        refine d_v (i := 1) rfl (by kernel_rfl) rfl (r_move (v := .int .i64 _) rfl) hH19059 ?_
        obtain ⟨hc19061, hM⟩ := chk_ok hM
        refine d_v (i := 2) rfl (by kernel_rfl) rfl (r_shl (a := _) (b := _) rfl rfl hc19061) hH19059 ?_
        refine d_v (i := 3) rfl (by kernel_rfl) rfl (r_move (v := .int .i64 _) rfl) hH19059 ?_
        obtain ⟨hc19062, hM⟩ := chk_ok hM
        refine d_v (i := 4) rfl (by kernel_rfl) rfl (r_shl (a := _) (b := _) rfl rfl hc19062) hH19059 ?_
        refine d_v (i := 5) rfl (by kernel_rfl) rfl (r_or (a := _) (b := _) rfl rfl) hH19059 ?_
        refine d_v (i := 6) rfl (by kernel_rfl) rfl (r_xor (a := _) (b := _) rfl rfl) hH19059 ?_
        refine d_v (i := 7) rfl (by kernel_rfl) rfl (r_assign (v := .int .i64 _) rfl) hH19059 ?_
        refine d_end (by kernel_rfl) ?_
        refine c_nil <| q_norm <| c_nil <| q_loop ?_
        exact ⟨k_3, Nat.lt_succ_self _, ixor set18640 (ior (ishl 1 x18712) (ishl 1 x18692)), l19001, a19002, l19001.length, c19004, cs19005, hM, row_n (hS19060.toHeld.own .here) hrc19007 (by decide), hrc19007, hS19060, rfl, rfl, rfl, rfl, rfl, rfl⟩
    ·replace hM := bif_f h18658 hM
     refine c_exit <| q_loopx <| q_hit <| c_seq ?_
     have hH19086 := (hS18651.weaken (.cons_cons _ (.cons_cons _ (.cons _ (.cons_cons _ (.cons_cons _ (.cons_cons _ (.refl _)))))))).toHeld
     refine c_draw (k := 9) (fun w => Held w m16456 (.row (.slice a18642 l18641.length c18644) 3 1 cs18645 :: .row (.slice a16462 l16461.length c16464) 3 1 cs16465 :: .row (.slice a11080 l11079.length c11082) 185 1 cs11083 :: .row (.slice a15 r12.length c17) 3 1 cs18 :: .box b9 41 [.int .i64 r3.corners, .slice a4 r3.streets.length c6] :: L)) mixed rfl ?_
     replace hH19086 := hH19086.drew1
     have hS19087 := hS18651.drew1
     refine d_v (i := 0) rfl (by kernel_rfl) rfl (r_move (v := .slice _ _ _) rfl) hH19086 ?_
     refine d_v (i := 1) rfl (by kernel_rfl) rfl (r_move (v := .slice _ _ _) rfl) hH19086 ?_
     refine d_v (i := 2) rfl (by kernel_rfl) rfl (r_move (v := .slice _ _ _) rfl) hH19086 ?_
     refine d_v (i := 3) rfl (by kernel_rfl) rfl (r_len Tryz.underlying187 (a := _) (n := _) (c := _) rfl) hH19086 ?_
     obtain ⟨hc19088, hM⟩ := chk_ok hM
     refine d_v (i := 4) rfl (by kernel_rfl) rfl (r_sub (a := _) (b := _) rfl rfl (ok_lo hc19088) (ok_hi hc19088)) hH19086 ?_
     obtain ⟨x19089, hx19090, h19091, h19092, hM⟩ := getK_ok hM
     obtain ⟨b19093, rfl⟩ := row_some (hS19087.toHeld.own (.there (.there .here))) hrc16474 (by decide) h19091 h19092
     obtain ⟨es19094, hes19095, hR19096⟩ := row_read hrc16474 hx19090
     obtain rfl := hR19096
     refine d_v (i := 5) rfl (by kernel_rfl) rfl (r_indexAddr Tryz.underlying187 ty3 (b := _) (o := _) (n := _) (c := _) (i := ((l16468.length : Nat) : Int) - 1) rfl rfl h19091 (row_lt (hS19087.toHeld.own (.there (.there .here))) hrc16474 (by decide) h19092)) hH19086 ?_
     refine d_v (i := 7) rfl (by kernel_rfl) rfl (r_assign (v := .slice _ _ _) rfl) hH19086 ?_
     refine d_all (rs := [6]) (by kernel_rfl) (by simp) (fun j hj o ho => ?_)
     obtain rfl : j = 6 := by simpa using hj
     cases ho
     refine wl_h hS19087.toHeld (r_row ty3 (k := 0) (i := (((l16468.length : Nat) : Int) - 1).toNat) (.there (.there .here)) rfl rfl (row_room hrc16474 hx19090) hes19095 rfl (v := .int .i64 _) rfl) <| wl_nil ?_
     have hH19097 := hS19087.toHeld.mono (Mem.le_refl _) (List.Sublist.subset (.cons_cons _ (.cons_cons _ (.cons _ (.cons_cons _ (.cons_cons _ (.cons_cons _ (.refl _))))))))
     refine ⟨hH19097, ?_⟩
     refine d_v (i := 8) rfl (by kernel_rfl) rfl (r_assign (v := .int .i64 _) rfl) hH19097 ?_
     refine d_end (by kernel_rfl) ?_
     refine c_ret <| ret_many rfl (.tmp (v := .slice _ _ _) rfl (.tmp (v := .int .i64 _) rfl .nil)) ?_
     obtain rfl := some_eq hM
     have hS19098 := hS19087.weaken (.cons_cons _ (.cons _ (.cons _ (.cons _ (.cons _ (.cons _ (.refl _)))))))
     exact ⟨a18642, l18641.length, c18644, cs18645, rfl, row_n (hS19098.toHeld.own .here) hrc18647 (by decide), (RCs.move RInt.any hrc18647), (St.back hS19098 le16458)⟩

theorem cg81 {m : Mem} {L : List Atom} {w : World} {a1 : Option Addr} {n2 c3 : Nat} {cs4 : List Value} {s6 : List Step}  (hS : St w m (.row (.slice a1 n2 c3) 44 2 cs4 :: L)) (hr5 : RCs 2 RStep m cs4 s6) {fuel : Nat} {r : (List Step)} (hM : mg81 fuel s6 = some r) : Calls P0 81 [.slice a1 n2 c3].toArray w (Ret fun v w' => ∃ (cs0 : List Value), v = .tuple #[] ∧ n2 = r.length ∧ RCs 2 RStep m cs0 r ∧ St w' m (.row (.slice a1 n2 c3) 44 2 cs0 :: L)) := by
 rw [mg81] at hM
 obtain rfl := row_n (hS.toHeld.own .here) hr5 (by decide)
 refine enter Tryz.func81 rfl Tryz.ntmps81 (Nat.le_of_ble_eq_true rfl) ?_
 refine c_seq <| c_region <| wl_h hS.toHeld (r_move (v := .slice _ _ _) rfl) <| wl_h hS.toHeld (r_len Tryz.underlying45 (a := _) (n := _) (c := _) rfl) ?_
 obtain ⟨hc7, hM⟩ := chk_ok hM
 refine wl_h hS.toHeld (r_sub (a := _) (b := _) rfl rfl (ok_lo hc7) (ok_hi hc7)) <| wl_h hS.toHeld (r_assign (v := .int .i64 _) rfl) <| wl_h hS.toHeld (r_assign (v := .int .i64 _) rfl) <| wl_nil <| c_block <| c_loop (fun k f w => ∃ (i214 : Int) (j215 : Int) (l216 : List Step) (cs217 : List Value), mg81_l0 fuel  k i214 j215 l216 = some r ∧ s6.length = l216.length ∧ RCs 2 RStep m cs217 l216 ∧ St w m (.row (.slice a1 s6.length c3) 44 2 cs217 :: L) ∧ f 0 = .slice a1 s6.length c3 ∧ f 2 = .int .i64 i214 ∧ f 3 = .int .i64 j215) fuel ⟨0, ((s6.length : Nat) : Int) - 1, s6, cs4, hM, row_n (hS.toHeld.own .here) hr5 (by decide), hr5, hS, rfl, rfl, rfl⟩ ?_
 rintro k_0 f220 w221 ⟨i214, j215, l216, cs217, hM, hn218, hrc219, hS223, e224, e225, e226⟩
 refine c_know (t := 0) e224 <| c_know (t := 2) e225 <| c_know (t := 3) e226 ?_
 clear e224 e225 e226
 rcases k_0 with _ | k_0
 · exact none_ne hM
 rw [mg81_l0] at hM
 refine c_seq <| c_seq <| c_region <| wl_h hS223.toHeld (r_move (v := .int .i64 _) rfl) <| wl_h hS223.toHeld (r_move (v := .int .i64 _) rfl) ?_
 refine wl_h hS223.toHeld (r_lss (a := _) (b := _) rfl rfl) <| wl_nil <| c_cond (c := _) rfl (fun h227 => ?_) (fun h227 => ?_)
 ·replace hM := bif_t h227 hM
  refine c_skip <| c_seq <| c_block ?_
  obtain ⟨x230, hx231, h232, h233, hM⟩ := getK_ok hM
  obtain ⟨x238, hx239, h240, h241, hM⟩ := getK_ok hM
  obtain ⟨x247, hx248, h249, h250, hM⟩ := getK_ok hM
  obtain ⟨x259, hx260, h261, h262, hM⟩ := getK_ok hM
  have hH273 := (hS223.weaken (.cons _ (.refl _))).toHeld
  refine c_drawJ (k := 16) (fun f w => ∃ (cs271 : List Value), RCs 2 RStep m cs271 ((l216.set i214.toNat x230).set j215.toNat x238) ∧ St w m (.row (.slice a1 s6.length c3) 44 2 cs271 :: L) ∧ f 0 = .slice a1 s6.length c3 ∧ f 2 = .int .i64 i214 ∧ f 3 = .int .i64 j215) (fun w => Held w m (L)) mixed rfl ?_ ?_
  ·replace hH273 := hH273.drew1
   have hS274 := hS223.drew1
   refine d_v (i := 0) rfl (by kernel_rfl) rfl (r_move (v := .slice _ _ _) rfl) hH273 ?_
   refine d_v (i := 1) rfl (by kernel_rfl) rfl (r_move (v := .int .i64 _) rfl) hH273 ?_
   refine d_v (i := 2) rfl (by kernel_rfl) rfl (r_move (v := .slice _ _ _) rfl) hH273 ?_
   refine d_v (i := 3) rfl (by kernel_rfl) rfl (r_move (v := .int .i64 _) rfl) hH273 ?_
   refine d_v (i := 4) rfl (by kernel_rfl) rfl (r_move (v := .slice _ _ _) rfl) hH273 ?_
   refine d_v (i := 5) rfl (by kernel_rfl) rfl (r_move (v := .int .i64 _) rfl) hH273 ?_
   obtain ⟨b275, rfl⟩ := row_some (hS274.toHeld.own .here) hrc219 (by decide) h232 h233
   obtain ⟨es276, hes277, hR278⟩ := row_read hrc219 hx231
   obtain rfl := hR278
   refine d_v (i := 6) rfl (by kernel_rfl) rfl (r_indexAddr Tryz.underlying45 ty44 (b := _) (o := _) (n := _) (c := _) (i := j215) rfl rfl h232 (row_lt (hS274.toHeld.own .here) hrc219 (by decide) h233)) hH273 ?_
   refine d_v (i := 8) rfl (by kernel_rfl) rfl (r_move (v := .slice _ _ _) rfl) hH273 ?_
   refine d_v (i := 9) rfl (by kernel_rfl) rfl (r_move (v := .int .i64 _) rfl) hH273 ?_
   obtain ⟨es279, hes280, hR281⟩ := row_read hrc219 hx239
   obtain rfl := hR281
   refine d_v (i := 10) rfl (by kernel_rfl) rfl (r_indexAddr Tryz.underlying45 ty44 (b := _) (o := _) (n := _) (c := _) (i := i214) rfl rfl h240 (row_lt (hS274.toHeld.own .here) hrc219 (by decide) h241)) hH273 ?_
   refine d_all (rs := [7, 11]) (by kernel_rfl) (by simp) (fun j hj o ho => ?_)
   simp only [List.mem_cons, List.not_mem_nil, or_false] at hj
   rcases hj with rfl | rfl
   ·cases ho
    refine wl_h hS274.toHeld (r_row ty44 (k := 0) (i := j215.toNat) .here rfl rfl (row_room hrc219 hx231) hes277 rfl (v := .agg #[.int .i64 _, .bool _]) rfl) <| wl_nil ?_
    have hH282 := hS274.toHeld.mono (Mem.le_refl _) (List.Sublist.subset (.cons _ (.refl _)))
    refine ⟨hH282, ?_⟩
    refine d_all (rs := [11]) (by kernel_rfl) (by simp) (fun j hj o ho => ?_)
    obtain rfl : j = 11 := by simpa using hj
    cases ho
    refine wl_h hS274.toHeld (r_row ty44 (k := 0) (i := i214.toNat) .here rfl rfl (row_room hrc219 hx239) hes280 rfl (v := .agg #[.int .i64 _, .bool _]) rfl) <| wl_nil ?_
    have hH283 := hS274.toHeld.mono (Mem.le_refl _) (List.Sublist.subset (.cons _ (.refl _)))
    refine ⟨hH283, ?_⟩
    obtain ⟨es284, hes285, hR286⟩ := row_read hrc219 hx248
    obtain rfl := hR286
    refine d_v (i := 12) rfl (by kernel_rfl) rfl (r_indexAddr Tryz.underlying45 ty44 (b := _) (o := _) (n := _) (c := _) (i := i214) rfl rfl h249 (row_lt (hS274.toHeld.own .here) hrc219 (by decide) h250)) hH283 ?_
    refine d_all (rs := [13]) (by kernel_rfl) (by simp) (fun j hj o ho => ?_)
    obtain rfl : j = 13 := by simpa using hj
    cases ho
    refine wl_store_row ty44 hS274 rfl (v := .agg #[.int .i64 _, .bool _]) rfl (vs := [.int .i64 _, .bool _]) rfl rfl rfl .here (Nat.le_trans (by simp only [Nat.zero_add]; omega) (row_room hrc219 hx248)) ?_
    intro w287 hS288
    have hrc289 := RCs.seti hrc219 hx248 (vs := [.int .i64 x230.street, .bool x230.back]) (y := x230) rfl rfl
    generalize spl cs217 (0 + i214.toNat * 2) [.int .i64 x230.street, .bool x230.back] = cs290 at hS288 hrc289
    refine wl_nil ?_
    have hH291 := hS288.toHeld.mono (Mem.le_refl _) (List.Sublist.subset (.cons _ (.refl _)))
    refine ⟨hH291, ?_⟩
    obtain ⟨es292, hes293, hR294⟩ := row_read hrc289 hx260
    obtain rfl := hR294
    refine d_v (i := 14) rfl (by kernel_rfl) rfl (r_indexAddr Tryz.underlying45 ty44 (b := _) (o := _) (n := _) (c := _) (i := j215) rfl rfl h261 (row_lt (hS288.toHeld.own .here) hrc289 (by decide) h262)) hH291 ?_
    refine d_all (rs := [15]) (by kernel_rfl) (by simp) (fun j hj o ho => ?_)
    obtain rfl : j = 15 := by simpa using hj
    cases ho
    refine wl_store_row ty44 hS288 rfl (v := .agg #[.int .i64 _, .bool _]) rfl (vs := [.int .i64 _, .bool _]) rfl rfl rfl .here (Nat.le_trans (by simp only [Nat.zero_add]; omega) (row_room hrc289 hx260)) ?_
    intro w295 hS296
    have hrc297 := RCs.seti hrc289 hx260 (vs := [.int .i64 x238.street, .bool x238.back]) (y := x238) rfl rfl
    generalize spl cs290 (0 + j215.toNat * 2) [.int .i64 x238.street, .bool x238.back] = cs298 at hS296 hrc297
    refine wl_nil ?_
    have hH299 := hS296.toHeld.mono (Mem.le_refl _) (List.Sublist.subset (.cons _ (.refl _)))
    refine ⟨hH299, ?_⟩
    refine d_end (by kernel_rfl) ?_
    exact ⟨_, hrc297, hS296, rfl, rfl, rfl⟩
   ·cases ho
    refine wl_h hS274.toHeld (r_row ty44 (k := 0) (i := i214.toNat) .here rfl rfl (row_room hrc219 hx239) hes280 rfl (v := .agg #[.int .i64 _, .bool _]) rfl) <| wl_nil ?_
    have hH300 := hS274.toHeld.mono (Mem.le_refl _) (List.Sublist.subset (.cons _ (.refl _)))
    refine ⟨hH300, ?_⟩
    refine d_all (rs := [7]) (by kernel_rfl) (by simp) (fun j hj o ho => ?_)
    obtain rfl : j = 7 := by simpa using hj
    cases ho
    refine wl_h hS274.toHeld (r_row ty44 (k := 0) (i := j215.toNat) .here rfl rfl (row_room hrc219 hx231) hes277 rfl (v := .agg #[.int .i64 _, .bool _]) rfl) <| wl_nil ?_
    have hH301 := hS274.toHeld.mono (Mem.le_refl _) (List.Sublist.subset (.cons _ (.refl _)))
    refine ⟨hH301, ?_⟩
    obtain ⟨es302, hes303, hR304⟩ := row_read hrc219 hx248
    obtain rfl := hR304
    refine d_v (i := 12) rfl (by kernel_rfl) rfl (r_indexAddr Tryz.underlying45 ty44 (b := _) (o := _) (n := _) (c := _) (i := i214) rfl rfl h249 (row_lt (hS274.toHeld.own .here) hrc219 (by decide) h250)) hH301 ?_
    refine d_all (rs := [13]) (by kernel_rfl) (by simp) (fun j hj o ho => ?_)
    obtain rfl : j = 13 := by simpa using hj
    cases ho
    refine wl_store_row ty44 hS274 rfl (v := .agg #[.int .i64 _, .bool _]) rfl (vs := [.int .i64 _, .bool _]) rfl rfl rfl .here (Nat.le_trans (by simp only [Nat.zero_add]; omega) (row_room hrc219 hx248)) ?_
    intro w305 hS306
    have hrc307 := RCs.seti hrc219 hx248 (vs := [.int .i64 x230.street, .bool x230.back]) (y := x230) rfl rfl
    generalize spl cs217 (0 + i214.toNat * 2) [.int .i64 x230.street, .bool x230.back] = cs308 at hS306 hrc307
    refine wl_nil ?_
    have hH309 := hS306.toHeld.mono (Mem.le_refl _) (List.Sublist.subset (.cons _ (.refl _)))
    refine ⟨hH309, ?_⟩
    obtain ⟨es310, hes311, hR312⟩ := row_read hrc307 hx260
    obtain rfl := hR312
    refine d_v (i := 14) rfl (by kernel_rfl) rfl (r_indexAddr Tryz.underlying45 ty44 (b := _) (o := _) (n := _) (c := _) (i := j215) rfl rfl h261 (row_lt (hS306.toHeld.own .here) hrc307 (by decide) h262)) hH309 ?_
    refine d_all (rs := [15]) (by kernel_rfl) (by simp) (fun j hj o ho => ?_)
    obtain rfl : j = 15 := by simpa using hj
    cases ho
    refine wl_store_row ty44 hS306 rfl (v := .agg #[.int .i64 _, .bool _]) rfl (vs := [.int .i64 _, .bool _]) rfl rfl rfl .here (Nat.le_trans (by simp only [Nat.zero_add]; omega) (row_room hrc307 hx260)) ?_
    intro w313 hS314
    have hrc315 := RCs.seti hrc307 hx260 (vs := [.int .i64 x238.street, .bool x238.back]) (y := x238) rfl rfl
    generalize spl cs308 (0 + j215.toNat * 2) [.int .i64 x238.street, .bool x238.back] = cs316 at hS314 hrc315
    refine wl_nil ?_
    have hH317 := hS314.toHeld.mono (Mem.le_refl _) (List.Sublist.subset (.cons _ (.refl _)))
    refine ⟨hH317, ?_⟩
    refine d_end (by kernel_rfl) ?_
    exact ⟨_, hrc315, hS314, rfl, rfl, rfl⟩
  ·rintro f322 w323 ⟨cs271, hrc272, hS318, e319, e320, e321⟩
   refine c_know (t := 0) e319 <| c_know (t := 2) e320 <| c_know (t := 3) e321 ?_
   clear e319 e320 e321
   refine c_nil <| q_norm <| c_region <| wl_h hS318.toHeld (r_move (v := .int .i64 _) rfl) ?_
   obtain ⟨hc324, hM⟩ := chk_ok hM
   refine wl_h hS318.toHeld (r_add (a := _) (b := _) rfl rfl (ok_lo hc324) (ok_hi hc324)) <| wl_h hS318.toHeld (r_move (v := .int .i64 _) rfl) ?_
   obtain ⟨hc325, hM⟩ := chk_ok hM
   refine wl_h hS318.toHeld (r_sub (a := _) (b := _) rfl rfl (ok_lo hc325) (ok_hi hc325)) <| wl_h hS318.toHeld (r_assign (v := .int .i64 _) rfl) <| wl_h hS318.toHeld (r_assign (v := .int .i64 _) rfl) <| wl_nil <| c_nil <| q_loop ?_
   exact ⟨k_0, Nat.lt_succ_self _, i214 + 1, j215 - 1, ((l216.set i214.toNat x230).set j215.toNat x238), cs271, hM, row_n (hS318.toHeld.own .here) hrc272 (by decide), hrc272, hS318, rfl, rfl, rfl⟩
 ·replace hM := bif_f h227 hM
  refine c_exit <| q_loopx <| q_hit <| c_nil <| end_none rfl ?_
  obtain rfl := some_eq hM
  exact ⟨cs217, rfl, row_n (hS223.toHeld.own .here) hrc219 (by decide), hrc219, hS223⟩

end Go.Proofs.YtdhhimfcjoclfaaGreat
