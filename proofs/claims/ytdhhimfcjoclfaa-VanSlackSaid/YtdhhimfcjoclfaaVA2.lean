import Derived.Test.YtdhhimfcjoclfaaVA1
set_option linter.unusedVariables false
set_option linter.unusedSimpArgs false
set_option maxRecDepth 100000
namespace Go.Proofs.Ytdhhimfcjoclfaa
open Go Go.K Go.V Go.Proofs
attribute [local irreducible] Calls
theorem cg8 {m : Mem} {L : List Atom} {w : World} {cs1 : List Value} {f3 : Fleet} (hS : St w m L) (hx2 : RFleet m cs1 f3) {fuel : Nat} {r : (List Tour) × Int × Int} (hM : mg8 fuel f3 = some r) : Calls P0 8 [.agg cs1.toArray].toArray w (Ret fun v w' => ∃ (m' : Mem) (a0 : Option Addr) (n0 : Nat) (c0 : Nat) (cs0 : List Value), v = .tuple #[.slice a0 n0 c0, .int .i64 r.2.1, .int .i64 r.2.2] ∧ m ≤ m' ∧ n0 = r.1.length ∧ RCs 3 RTour m' cs0 r.1 ∧ St w' m' (.row (.slice a0 n0 c0) 42 3 cs0 :: L)) := by
 rw [mg8] at hM
 have hk12 := hx2
 obtain ⟨a4, n5, c6, a8, n9, c10, rfl, hr7, hr11⟩ := hx2
 obtain rfl := hr7.1
 obtain rfl := hr11.1
 refine enter Try.func8 rfl Try.ntmps8 (Nat.le_of_ble_eq_true rfl) ?_
 refine c_seq <| c_region <| wl_box hS (v := .agg #[.slice _ _ _, .slice _ _ _, .int .i64 _, .int .i64 _, .int .i64 _]) rfl (cs := [.slice _ _ _, .slice _ _ _, .int .i64 _, .int .i64 _, .int .i64 _]) rfl ?_
 intro b13 w14 hS15
 refine wl_h hS15.toHeld (r_assign (v := .slice _ _ _) rfl) <| wl_h hS15.toHeld (r_assign (v := .int .i64 _) rfl) <| wl_h hS15.toHeld (r_assign (v := .int .i64 _) rfl) <| wl_nil <| c_seq <| c_seq <| c_region <| wl_h hS15.toHeld (r_box ty26 (k := 0) .here rfl rfl rfl (v := .agg #[.slice _ _ _, .slice _ _ _, .int .i64 _, .int .i64 _, .int .i64 _]) rfl) ?_
 obtain ⟨r16, hq17, hM⟩ := bnd_ok hM
 refine wl_call ent18 (vals := [.agg #[.slice _ _ _, .slice _ _ _, .int .i64 _, .int .i64 _, .int .i64 _]]) rfl (cg18 hS15 hk12 hq17) ?_
 rintro _ w19 ⟨rfl, hS20⟩
 refine wl_h hS20.toHeld (r_assign (v := .int .i64 _) rfl) <| wl_nil <| c_seq <| c_region <| wl_h hS20.toHeld (r_move (v := .int .i64 _) rfl) ?_
 refine wl_h hS20.toHeld (r_neq (a := _) (b := _) rfl rfl) <| wl_nil <| c_cond (c := _) rfl (fun h21 => ?_) (fun h21 => ?_)
 ·replace hM := bif_t h21 hM
  refine c_seq <| c_region <| wl_h hS20.toHeld (r_move (v := .int .i64 _) rfl) <| wl_h hS20.toHeld (r_assign (v := .slice _ _ _) rfl) <| wl_h hS20.toHeld (r_assign (v := .int .i64 _) rfl) ?_
  refine wl_h hS20.toHeld (r_assign (v := .int .i64 _) rfl) <| wl_nil <| c_ret <| ret_many rfl (.tmp (v := .slice _ _ _) rfl (.tmp (v := .int .i64 _) rfl (.tmp (v := .int .i64 _) rfl .nil))) ?_
  have hS22 := hS20.nilRow 42 3
  have hrc24 : RCs 3 RTour m [] ([] : List Tour) := RCs.nil
  obtain rfl := some_eq hM
  have hS25 := hS22.weaken (.cons_cons _ (.cons _ (.refl _)))
  exact ⟨m, none, 0, 0, [], rfl, Mem.le_refl _, row_n (hS25.toHeld.own .here) hrc24 (by decide), hrc24, hS25⟩
 ·replace hM := bif_f h21 hM
  refine c_skip <| c_seq <| c_region <| wl_h hS20.toHeld (r_box ty26 (k := 0) .here rfl rfl rfl (v := .agg #[.slice _ _ _, .slice _ _ _, .int .i64 _, .int .i64 _, .int .i64 _]) rfl) ?_
  obtain ⟨r26, hq27, hM⟩ := bnd_ok hM
  refine wl_call ent19 (vals := [.agg #[.slice _ _ _, .slice _ _ _, .int .i64 _, .int .i64 _, .int .i64 _]]) rfl (cg19 hS20 hk12 hq27) ?_
  rintro _ w36 ⟨m28, a30, n31, c32, cs33, rfl, hm29, rfl, hrc34, hS37⟩
  have le38 := hm29
  replace hk12 := RFleet.mono _ _ _ _ hk12 hm29
  replace hr7 := RSl.mono RStop.mono hr7 hm29
  replace hr11 := RSl.mono (RS.mono RInt.mono) hr11 hm29
  refine wl_alloc ty59 rfl hS37 ?_
  intro b39 w40 hS41
  refine wl_store_box ty59 hS41 rfl (v := .agg #[.bool _, .slice _ _ _, .int .i64 _]) rfl (vs := [.bool _, .slice _ _ _, .int .i64 _]) rfl rfl rfl .here (cs' := [.bool _, .slice _ _ _, .int .i64 _]) rfl rfl ?_
  intro w42 hS43
  refine wl_nil <| c_seq <| c_seq <| c_region <| wl_h hS43.toHeld (r_fieldAddr fld59_0 (b := _) (o := _) rfl) ?_
  refine wl_h hS43.toHeld (r_box ty4 (k := 0) .here rfl rfl rfl (v := .bool _) rfl) <| wl_h hS43.toHeld (r_not (b := _) rfl) <| wl_nil <| c_cond (c := _) rfl (fun h44 => ?_) (fun h44 => ?_)
  ·replace hM := bif_t h44 hM
   refine c_seq <| c_region <| wl_h hS43.toHeld (r_assign (v := .slice _ _ _) rfl) <| wl_h hS43.toHeld (r_assign (v := .int .i64 _) rfl) <| wl_h hS43.toHeld (r_assign (v := .int .i64 _) rfl) ?_
   refine wl_nil <| c_ret <| ret_many rfl (.tmp (v := .slice _ _ _) rfl (.tmp (v := .int .i64 _) rfl (.tmp (v := .int .i64 _) rfl .nil))) ?_
   have hS45 := hS43.nilRow 42 3
   have hrc47 : RCs 3 RTour m28 [] ([] : List Tour) := RCs.nil
   obtain rfl := some_eq hM
   have hS48 := hS45.weaken (.cons_cons _ (.cons _ (.cons _ (.cons _ (.refl _)))))
   exact ⟨m28, none, 0, 0, [], rfl, le38, row_n (hS48.toHeld.own .here) hrc47 (by decide), hrc47, hS48⟩
  ·replace hM := bif_f h44 hM
   refine c_skip <| c_seq <| c_seq <| c_region <| wl_h hS43.toHeld (r_fieldAddr fld59_1 (b := _) (o := _) rfl) ?_
   refine wl_h hS43.toHeld (r_box ty36 (k := 1) .here rfl rfl rfl (v := .slice _ _ _) rfl) <| wl_h hS43.toHeld (r_len Try.underlying36 (a := _) (n := _) (c := _) rfl) <| wl_h hS43.toHeld (r_move (v := .int .i64 _) rfl) <| wl_nil <| c_block ?_
   have hS49 := hS43.weaken (.cons_cons _ (.cons_cons _ (.cons _ (.refl _))))
   refine c_loop (fun k f w => ∃ (x626 : Int) (l627 : List Tour) (m622 : Mem) (a628 : Option Addr) (n629 : Nat) (c630 : Nat) (cs631 : List Value), mg8_l0 fuel r26 k x626 l627 = some r ∧ m28 ≤ m622 ∧ n629 = l627.length ∧ RCs 3 RTour m622 cs631 l627 ∧ St w m622 (.box b39 59 [.bool r26.ok, .slice a628 n629 c630, .int .i64 r26.takes] :: .row (.slice a628 n629 c630) 42 3 cs631 :: L) ∧ f 6 = .pointer (some ⟨b39, 0, none⟩) ∧ f 20 = .int .i64 ((r26.tours.length : Nat) : Int) ∧ f 21 = .int .i64 x626) fuel ⟨0, r26.tours, m28, a30, r26.tours.length, c32, cs33, hM, Mem.le_refl _, row_n (hS49.toHeld.own (.there .here)) hrc34 (by decide), hrc34, hS49, rfl, rfl, rfl⟩ ?_
   rintro k_0 f634 w635 ⟨x626, l627, m622, a628, n629, c630, cs631, hM, hm623, hn632, hrc633, hS637, e638, e639, e640⟩
   replace hk12 := RFleet.mono _ _ _ _ hk12 hm623
   replace hr7 := RSl.mono RStop.mono hr7 hm623
   replace hr11 := RSl.mono (RS.mono RInt.mono) hr11 hm623
   replace hrc34 := RCs.mono RTour.mono hrc34 hm623
   have le624 := Mem.le_trans le38 hm623
   have le625 := hm623
   subst hn632
   refine c_know (t := 6) e638 <| c_know (t := 20) e639 <| c_know (t := 21) e640 ?_
   clear e638 e639 e640
   rcases k_0 with _ | k_0
   · exact none_ne hM
   rw [mg8_l0] at hM
   refine c_seq <| c_region <| wl_h hS637.toHeld (r_lss (a := _) (b := _) rfl rfl) <| wl_nil <| c_seq <| c_cond (c := _) rfl (fun h641 => ?_) (fun h641 => ?_)
   ·replace hM := bif_t h641 hM
    refine c_skip <| c_seq <| c_block <| c_seq <| c_region <| wl_h hS637.toHeld (r_move (v := .int .i64 _) rfl) ?_
    refine wl_h hS637.toHeld (r_assign (v := .int .i64 _) rfl) <| wl_nil ?_
    obtain ⟨x698, hx699, h700, h701, hM⟩ := getK_ok hM
    obtain ⟨r712, hq713, hM⟩ := bnd_ok hM
    obtain ⟨x724, hx725, h726, h727, hM⟩ := getK_ok hM
    have hH756 := (hS637.weaken (.cons _ (.cons _ (.refl _)))).toHeld
    refine c_drawJ (k := 13) (fun f w => ∃ (m736 : Mem) (a750 : Option Addr) (n751 : Nat) (c752 : Nat) (cs753 : List Value), m622 ≤ m736 ∧ n751 = ((l627.set x626.toNat (⟨r712, x724.leave, x724.fin⟩ : Tour))).length ∧ RCs 3 RTour m736 cs753 (l627.set x626.toNat (⟨r712, x724.leave, x724.fin⟩ : Tour)) ∧ St w m736 (.box b39 59 [.bool r26.ok, .slice a750 n751 c752, .int .i64 r26.takes] :: .row (.slice a750 n751 c752) 42 3 cs753 :: L) ∧ f 6 = .pointer (some ⟨b39, 0, none⟩) ∧ f 20 = .int .i64 ((r26.tours.length : Nat) : Int) ∧ f 21 = .int .i64 x626) (fun w => Held w m622 (L)) mixed rfl ?_ ?_
    ·replace hH756 := hH756.drew1
     have hS757 := hS637.drew1
     refine d_v (i := 0) rfl (by kernel_rfl) rfl (r_fieldAddr fld59_1 (b := _) (o := _) rfl) hH756 ?_
     refine d_v (i := 2) rfl (by kernel_rfl) rfl (r_move (v := .int .i64 _) rfl) hH756 ?_
     refine d_v (i := 3) rfl (by kernel_rfl) rfl (r_fieldAddr fld59_1 (b := _) (o := _) rfl) hH756 ?_
     refine d_v (i := 5) rfl (by kernel_rfl) rfl (r_move (v := .int .i64 _) rfl) hH756 ?_
     refine d_all (rs := [1, 4]) (by kernel_rfl) (by simp) (fun j hj o ho => ?_)
     simp only [List.mem_cons, List.not_mem_nil, or_false] at hj
     rcases hj with rfl | rfl
     ·cases ho
      refine wl_h hS757.toHeld (r_box ty36 (k := 1) .here rfl rfl rfl (v := .slice _ _ _) rfl) <| wl_nil ?_
      have hH758 := hS757.toHeld.mono (Mem.le_refl _) (List.Sublist.subset (.cons _ (.cons _ (.refl _))))
      refine ⟨hH758, ?_⟩
      refine d_all (rs := [4]) (by kernel_rfl) (by simp) (fun j hj o ho => ?_)
      obtain rfl : j = 4 := by simpa using hj
      cases ho
      refine wl_h hS757.toHeld (r_box ty36 (k := 1) .here rfl rfl rfl (v := .slice _ _ _) rfl) <| wl_nil ?_
      have hH759 := hS757.toHeld.mono (Mem.le_refl _) (List.Sublist.subset (.cons _ (.cons _ (.refl _))))
      refine ⟨hH759, ?_⟩
      obtain ⟨b760, rfl⟩ := row_some (hS757.toHeld.own (.there .here)) hrc633 (by decide) h700 h701
      obtain ⟨es761, hes762, hR763⟩ := row_read hrc633 hx699
      have hk768 := hR763
      obtain ⟨a764, n765, c766, rfl, hr767⟩ := hR763
      obtain rfl := hr767.1
      refine d_v (i := 6) rfl (by kernel_rfl) rfl (r_indexAddr Try.underlying36 ty42 (b := _) (o := _) (n := _) (c := _) (i := x626) rfl rfl h700 (row_lt (hS757.toHeld.own (.there .here)) hrc633 (by decide) h701)) hH759 ?_
      refine d_v (i := 7) rfl (by kernel_rfl) rfl (r_fieldAddr fld42_0 (b := _) (o := _) rfl) hH759 ?_
      refine d_all (rs := [8]) (by kernel_rfl) (by simp) (fun j hj o ho => ?_)
      obtain rfl : j = 8 := by simpa using hj
      cases ho
      refine wl_h hS757.toHeld (r_row ty35 (k := 0) (i := x626.toNat) (.there .here) rfl rfl (row_room hrc633 hx699) hes762 rfl (v := .slice _ _ _) rfl) <| wl_nil ?_
      have hH769 := hS757.toHeld.mono (Mem.le_refl _) (List.Sublist.subset (.cons _ (.cons _ (.refl _))))
      refine ⟨hH769, ?_⟩
      refine d_all (rs := [9]) (by kernel_rfl) (by simp) (fun j hj o ho => ?_)
      obtain rfl : j = 9 := by simpa using hj
      cases ho
      refine wl_call ent20 (vals := [.slice _ _ _]) rfl (cg20 hS757 hr767 hq713) ?_
      rintro _ w777 ⟨a771, n772, c773, cs774, rfl, rfl, hrc775, hS778⟩
      refine wl_nil ?_
      have hH779 := hS778.toHeld.mono (Mem.le_refl _) (List.Sublist.subset (.cons _ (.cons _ (.cons _ (.refl _)))))
      refine ⟨hH779, ?_⟩
      obtain ⟨es780, hes781, hR782⟩ := row_read hrc633 hx725
      have hk787 := hR782
      obtain ⟨a783, n784, c785, rfl, hr786⟩ := hR782
      obtain rfl := hr786.1
      refine d_v (i := 10) rfl (by kernel_rfl) rfl (r_indexAddr Try.underlying36 ty42 (b := _) (o := _) (n := _) (c := _) (i := x626) rfl rfl h726 (row_lt (hS778.toHeld.own (.there (.there .here))) hrc633 (by decide) h727)) hH779 ?_
      refine d_v (i := 11) rfl (by kernel_rfl) rfl (r_fieldAddr fld42_0 (b := _) (o := _) rfl) hH779 ?_
      refine d_all (rs := [12]) (by kernel_rfl) (by simp) (fun j hj o ho => ?_)
      obtain rfl : j = 12 := by simpa using hj
      cases ho
      obtain ⟨m788, hm789, hS790, hr791⟩ := hS778.freezeR .here hrc775 RInt.mono (by decide)
      have le793 := Mem.le_trans le624 hm789
      have le794 := Mem.le_trans le625 hm789
      have le795 := hm789
      replace hk12 := RFleet.mono _ _ _ _ hk12 hm789
      replace hr7 := RSl.mono RStop.mono hr7 hm789
      replace hr11 := RSl.mono (RS.mono RInt.mono) hr11 hm789
      replace hrc34 := RCs.mono RTour.mono hrc34 hm789
      replace hrc633 := RCs.mono RTour.mono hrc633 hm789
      replace hk768 := RTour.mono _ _ _ _ hk768 hm789
      replace hr767 := RSl.mono RInt.mono hr767 hm789
      replace hrc775 := RCs.mono RInt.mono hrc775 hm789
      replace hk787 := RTour.mono _ _ _ _ hk787 hm789
      replace hr786 := RSl.mono RInt.mono hr786 hm789
      refine wl_store_row ty35 hS790 rfl (v := .slice _ _ _) rfl (vs := [.slice _ _ _]) rfl rfl rfl (.there .here) (Nat.le_trans (by simp only [Nat.zero_add]; omega) (row_room hrc633 hx725)) ?_
      intro w796 hS797
      have hrc798 := RCs.setp hrc633 hx725 (k := 0) (vs := [.slice a771 r712.length c773]) hes781 (Nat.le_of_ble_eq_true rfl) rfl (y := (⟨r712, x724.leave, x724.fin⟩ : Tour)) ⟨_, _, _, rfl, hr791⟩
      generalize spl cs631 (0 + x626.toNat * 3 + 0) [.slice a771 r712.length c773] = cs799 at hS797 hrc798
      refine wl_nil ?_
      have hH800 := hS797.toHeld.mono le795 (List.Sublist.subset (.cons _ (.cons _ (.refl _))))
      refine ⟨hH800, ?_⟩
      refine d_end (by kernel_rfl) ?_
      exact ⟨_, _, _, _, _, le795, row_n (hS797.toHeld.own (.there .here)) hrc798 (by decide), hrc798, hS797, rfl, rfl, rfl⟩
     ·cases ho
      refine wl_h hS757.toHeld (r_box ty36 (k := 1) .here rfl rfl rfl (v := .slice _ _ _) rfl) <| wl_nil ?_
      have hH801 := hS757.toHeld.mono (Mem.le_refl _) (List.Sublist.subset (.cons _ (.cons _ (.refl _))))
      refine ⟨hH801, ?_⟩
      obtain ⟨b802, rfl⟩ := row_some (hS757.toHeld.own (.there .here)) hrc633 (by decide) h700 h701
      obtain ⟨es803, hes804, hR805⟩ := row_read hrc633 hx699
      have hk810 := hR805
      obtain ⟨a806, n807, c808, rfl, hr809⟩ := hR805
      obtain rfl := hr809.1
      refine d_v (i := 6) rfl (by kernel_rfl) rfl (r_indexAddr Try.underlying36 ty42 (b := _) (o := _) (n := _) (c := _) (i := x626) rfl rfl h700 (row_lt (hS757.toHeld.own (.there .here)) hrc633 (by decide) h701)) hH801 ?_
      refine d_v (i := 7) rfl (by kernel_rfl) rfl (r_fieldAddr fld42_0 (b := _) (o := _) rfl) hH801 ?_
      refine d_all (rs := [1, 8]) (by kernel_rfl) (by simp) (fun j hj o ho => ?_)
      simp only [List.mem_cons, List.not_mem_nil, or_false] at hj
      rcases hj with rfl | rfl
      ·cases ho
       refine wl_h hS757.toHeld (r_box ty36 (k := 1) .here rfl rfl rfl (v := .slice _ _ _) rfl) <| wl_nil ?_
       have hH811 := hS757.toHeld.mono (Mem.le_refl _) (List.Sublist.subset (.cons _ (.cons _ (.refl _))))
       refine ⟨hH811, ?_⟩
       refine d_all (rs := [8]) (by kernel_rfl) (by simp) (fun j hj o ho => ?_)
       obtain rfl : j = 8 := by simpa using hj
       cases ho
       refine wl_h hS757.toHeld (r_row ty35 (k := 0) (i := x626.toNat) (.there .here) rfl rfl (row_room hrc633 hx699) hes804 rfl (v := .slice _ _ _) rfl) <| wl_nil ?_
       have hH812 := hS757.toHeld.mono (Mem.le_refl _) (List.Sublist.subset (.cons _ (.cons _ (.refl _))))
       refine ⟨hH812, ?_⟩
       refine d_all (rs := [9]) (by kernel_rfl) (by simp) (fun j hj o ho => ?_)
       obtain rfl : j = 9 := by simpa using hj
       cases ho
       refine wl_call ent20 (vals := [.slice _ _ _]) rfl (cg20 hS757 hr809 hq713) ?_
       rintro _ w820 ⟨a814, n815, c816, cs817, rfl, rfl, hrc818, hS821⟩
       refine wl_nil ?_
       have hH822 := hS821.toHeld.mono (Mem.le_refl _) (List.Sublist.subset (.cons _ (.cons _ (.cons _ (.refl _)))))
       refine ⟨hH822, ?_⟩
       obtain ⟨es823, hes824, hR825⟩ := row_read hrc633 hx725
       have hk830 := hR825
       obtain ⟨a826, n827, c828, rfl, hr829⟩ := hR825
       obtain rfl := hr829.1
       refine d_v (i := 10) rfl (by kernel_rfl) rfl (r_indexAddr Try.underlying36 ty42 (b := _) (o := _) (n := _) (c := _) (i := x626) rfl rfl h726 (row_lt (hS821.toHeld.own (.there (.there .here))) hrc633 (by decide) h727)) hH822 ?_
       refine d_v (i := 11) rfl (by kernel_rfl) rfl (r_fieldAddr fld42_0 (b := _) (o := _) rfl) hH822 ?_
       refine d_all (rs := [12]) (by kernel_rfl) (by simp) (fun j hj o ho => ?_)
       obtain rfl : j = 12 := by simpa using hj
       cases ho
       obtain ⟨m831, hm832, hS833, hr834⟩ := hS821.freezeR .here hrc818 RInt.mono (by decide)
       have le836 := Mem.le_trans le624 hm832
       have le837 := Mem.le_trans le625 hm832
       have le838 := hm832
       replace hk12 := RFleet.mono _ _ _ _ hk12 hm832
       replace hr7 := RSl.mono RStop.mono hr7 hm832
       replace hr11 := RSl.mono (RS.mono RInt.mono) hr11 hm832
       replace hrc34 := RCs.mono RTour.mono hrc34 hm832
       replace hrc633 := RCs.mono RTour.mono hrc633 hm832
       replace hk810 := RTour.mono _ _ _ _ hk810 hm832
       replace hr809 := RSl.mono RInt.mono hr809 hm832
       replace hrc818 := RCs.mono RInt.mono hrc818 hm832
       replace hk830 := RTour.mono _ _ _ _ hk830 hm832
       replace hr829 := RSl.mono RInt.mono hr829 hm832
       refine wl_store_row ty35 hS833 rfl (v := .slice _ _ _) rfl (vs := [.slice _ _ _]) rfl rfl rfl (.there .here) (Nat.le_trans (by simp only [Nat.zero_add]; omega) (row_room hrc633 hx725)) ?_
       intro w839 hS840
       have hrc841 := RCs.setp hrc633 hx725 (k := 0) (vs := [.slice a814 r712.length c816]) hes824 (Nat.le_of_ble_eq_true rfl) rfl (y := (⟨r712, x724.leave, x724.fin⟩ : Tour)) ⟨_, _, _, rfl, hr834⟩
       generalize spl cs631 (0 + x626.toNat * 3 + 0) [.slice a814 r712.length c816] = cs842 at hS840 hrc841
       refine wl_nil ?_
       have hH843 := hS840.toHeld.mono le838 (List.Sublist.subset (.cons _ (.cons _ (.refl _))))
       refine ⟨hH843, ?_⟩
       refine d_end (by kernel_rfl) ?_
       exact ⟨_, _, _, _, _, le838, row_n (hS840.toHeld.own (.there .here)) hrc841 (by decide), hrc841, hS840, rfl, rfl, rfl⟩
      ·cases ho
       refine wl_h hS757.toHeld (r_row ty35 (k := 0) (i := x626.toNat) (.there .here) rfl rfl (row_room hrc633 hx699) hes804 rfl (v := .slice _ _ _) rfl) <| wl_nil ?_
       have hH844 := hS757.toHeld.mono (Mem.le_refl _) (List.Sublist.subset (.cons _ (.cons _ (.refl _))))
       refine ⟨hH844, ?_⟩
       refine d_all (rs := [1, 9]) (by kernel_rfl) (by simp) (fun j hj o ho => ?_)
       simp only [List.mem_cons, List.not_mem_nil, or_false] at hj
       rcases hj with rfl | rfl
       ·cases ho
        refine wl_h hS757.toHeld (r_box ty36 (k := 1) .here rfl rfl rfl (v := .slice _ _ _) rfl) <| wl_nil ?_
        have hH845 := hS757.toHeld.mono (Mem.le_refl _) (List.Sublist.subset (.cons _ (.cons _ (.refl _))))
        refine ⟨hH845, ?_⟩
        refine d_all (rs := [9]) (by kernel_rfl) (by simp) (fun j hj o ho => ?_)
        obtain rfl : j = 9 := by simpa using hj
        cases ho
        refine wl_call ent20 (vals := [.slice _ _ _]) rfl (cg20 hS757 hr809 hq713) ?_
        rintro _ w853 ⟨a847, n848, c849, cs850, rfl, rfl, hrc851, hS854⟩
        refine wl_nil ?_
        have hH855 := hS854.toHeld.mono (Mem.le_refl _) (List.Sublist.subset (.cons _ (.cons _ (.cons _ (.refl _)))))
        refine ⟨hH855, ?_⟩
        obtain ⟨es856, hes857, hR858⟩ := row_read hrc633 hx725
        have hk863 := hR858
        obtain ⟨a859, n860, c861, rfl, hr862⟩ := hR858
        obtain rfl := hr862.1
        refine d_v (i := 10) rfl (by kernel_rfl) rfl (r_indexAddr Try.underlying36 ty42 (b := _) (o := _) (n := _) (c := _) (i := x626) rfl rfl h726 (row_lt (hS854.toHeld.own (.there (.there .here))) hrc633 (by decide) h727)) hH855 ?_
        refine d_v (i := 11) rfl (by kernel_rfl) rfl (r_fieldAddr fld42_0 (b := _) (o := _) rfl) hH855 ?_
        refine d_all (rs := [12]) (by kernel_rfl) (by simp) (fun j hj o ho => ?_)
        obtain rfl : j = 12 := by simpa using hj
        cases ho
        obtain ⟨m864, hm865, hS866, hr867⟩ := hS854.freezeR .here hrc851 RInt.mono (by decide)
        have le869 := Mem.le_trans le624 hm865
        have le870 := Mem.le_trans le625 hm865
        have le871 := hm865
        replace hk12 := RFleet.mono _ _ _ _ hk12 hm865
        replace hr7 := RSl.mono RStop.mono hr7 hm865
        replace hr11 := RSl.mono (RS.mono RInt.mono) hr11 hm865
        replace hrc34 := RCs.mono RTour.mono hrc34 hm865
        replace hrc633 := RCs.mono RTour.mono hrc633 hm865
        replace hk810 := RTour.mono _ _ _ _ hk810 hm865
        replace hr809 := RSl.mono RInt.mono hr809 hm865
        replace hrc851 := RCs.mono RInt.mono hrc851 hm865
        replace hk863 := RTour.mono _ _ _ _ hk863 hm865
        replace hr862 := RSl.mono RInt.mono hr862 hm865
        refine wl_store_row ty35 hS866 rfl (v := .slice _ _ _) rfl (vs := [.slice _ _ _]) rfl rfl rfl (.there .here) (Nat.le_trans (by simp only [Nat.zero_add]; omega) (row_room hrc633 hx725)) ?_
        intro w872 hS873
        have hrc874 := RCs.setp hrc633 hx725 (k := 0) (vs := [.slice a847 r712.length c849]) hes857 (Nat.le_of_ble_eq_true rfl) rfl (y := (⟨r712, x724.leave, x724.fin⟩ : Tour)) ⟨_, _, _, rfl, hr867⟩
        generalize spl cs631 (0 + x626.toNat * 3 + 0) [.slice a847 r712.length c849] = cs875 at hS873 hrc874
        refine wl_nil ?_
        have hH876 := hS873.toHeld.mono le871 (List.Sublist.subset (.cons _ (.cons _ (.refl _))))
        refine ⟨hH876, ?_⟩
        refine d_end (by kernel_rfl) ?_
        exact ⟨_, _, _, _, _, le871, row_n (hS873.toHeld.own (.there .here)) hrc874 (by decide), hrc874, hS873, rfl, rfl, rfl⟩
       ·cases ho
        refine wl_call ent20 (vals := [.slice _ _ _]) rfl (cg20 hS757 hr809 hq713) ?_
        rintro _ w884 ⟨a878, n879, c880, cs881, rfl, rfl, hrc882, hS885⟩
        refine wl_nil ?_
        have hH886 := hS885.toHeld.mono (Mem.le_refl _) (List.Sublist.subset (.cons _ (.cons _ (.cons _ (.refl _)))))
        refine ⟨hH886, ?_⟩
        refine d_all (rs := [1]) (by kernel_rfl) (by simp) (fun j hj o ho => ?_)
        obtain rfl : j = 1 := by simpa using hj
        cases ho
        refine wl_h hS885.toHeld (r_box ty36 (k := 1) (.there .here) rfl rfl rfl (v := .slice _ _ _) rfl) <| wl_nil ?_
        have hH887 := hS885.toHeld.mono (Mem.le_refl _) (List.Sublist.subset (.cons _ (.cons _ (.cons _ (.refl _)))))
        refine ⟨hH887, ?_⟩
        obtain ⟨es888, hes889, hR890⟩ := row_read hrc633 hx725
        have hk895 := hR890
        obtain ⟨a891, n892, c893, rfl, hr894⟩ := hR890
        obtain rfl := hr894.1
        refine d_v (i := 10) rfl (by kernel_rfl) rfl (r_indexAddr Try.underlying36 ty42 (b := _) (o := _) (n := _) (c := _) (i := x626) rfl rfl h726 (row_lt (hS885.toHeld.own (.there (.there .here))) hrc633 (by decide) h727)) hH887 ?_
        refine d_v (i := 11) rfl (by kernel_rfl) rfl (r_fieldAddr fld42_0 (b := _) (o := _) rfl) hH887 ?_
        refine d_all (rs := [12]) (by kernel_rfl) (by simp) (fun j hj o ho => ?_)
        obtain rfl : j = 12 := by simpa using hj
        cases ho
        obtain ⟨m896, hm897, hS898, hr899⟩ := hS885.freezeR .here hrc882 RInt.mono (by decide)
        have le901 := Mem.le_trans le624 hm897
        have le902 := Mem.le_trans le625 hm897
        have le903 := hm897
        replace hk12 := RFleet.mono _ _ _ _ hk12 hm897
        replace hr7 := RSl.mono RStop.mono hr7 hm897
        replace hr11 := RSl.mono (RS.mono RInt.mono) hr11 hm897
        replace hrc34 := RCs.mono RTour.mono hrc34 hm897
        replace hrc633 := RCs.mono RTour.mono hrc633 hm897
        replace hk810 := RTour.mono _ _ _ _ hk810 hm897
        replace hr809 := RSl.mono RInt.mono hr809 hm897
        replace hrc882 := RCs.mono RInt.mono hrc882 hm897
        replace hk895 := RTour.mono _ _ _ _ hk895 hm897
        replace hr894 := RSl.mono RInt.mono hr894 hm897
        refine wl_store_row ty35 hS898 rfl (v := .slice _ _ _) rfl (vs := [.slice _ _ _]) rfl rfl rfl (.there .here) (Nat.le_trans (by simp only [Nat.zero_add]; omega) (row_room hrc633 hx725)) ?_
        intro w904 hS905
        have hrc906 := RCs.setp hrc633 hx725 (k := 0) (vs := [.slice a878 r712.length c880]) hes889 (Nat.le_of_ble_eq_true rfl) rfl (y := (⟨r712, x724.leave, x724.fin⟩ : Tour)) ⟨_, _, _, rfl, hr899⟩
        generalize spl cs631 (0 + x626.toNat * 3 + 0) [.slice a878 r712.length c880] = cs907 at hS905 hrc906
        refine wl_nil ?_
        have hH908 := hS905.toHeld.mono le903 (List.Sublist.subset (.cons _ (.cons _ (.refl _))))
        refine ⟨hH908, ?_⟩
        refine d_end (by kernel_rfl) ?_
        exact ⟨_, _, _, _, _, le903, row_n (hS905.toHeld.own (.there .here)) hrc906 (by decide), hrc906, hS905, rfl, rfl, rfl⟩
    ·rintro f913 w914 ⟨m736, a750, n751, c752, cs753, hm749, hn754, hrc755, hS909, e910, e911, e912⟩
     have le915 := Mem.le_trans le624 hm749
     have le916 := Mem.le_trans le625 hm749
     have le917 := hm749
     replace hk12 := RFleet.mono _ _ _ _ hk12 hm749
     replace hr7 := RSl.mono RStop.mono hr7 hm749
     replace hr11 := RSl.mono (RS.mono RInt.mono) hr11 hm749
     replace hrc34 := RCs.mono RTour.mono hrc34 hm749
     replace hrc633 := RCs.mono RTour.mono hrc633 hm749
     subst hn754
     refine c_know (t := 6) e910 <| c_know (t := 20) e911 <| c_know (t := 21) e912 ?_
     clear e910 e911 e912
     refine c_nil <| q_norm <| c_region ?_
     obtain ⟨hc918, hM⟩ := chk_ok hM
     refine wl_h hS909.toHeld (r_add (a := _) (b := _) rfl rfl (ok_lo hc918) (ok_hi hc918)) <| wl_h hS909.toHeld (r_move (v := .int .i64 _) rfl) <| wl_nil <| c_nil <| q_loop ?_
     exact ⟨k_0, Nat.lt_succ_self _, x626 + 1, (l627.set x626.toNat (⟨r712, x724.leave, x724.fin⟩ : Tour)), m736, a750, ((l627.set x626.toNat (⟨r712, x724.leave, x724.fin⟩ : Tour))).length, c752, cs753, hM, le916, row_n (hS909.toHeld.own (.there .here)) hrc755 (by decide), hrc755, hS909, rfl, rfl, rfl⟩
   ·replace hM := bif_f h641 hM
    refine c_exit <| q_loopx <| q_hit <| c_seq ?_
    have hH921 := (hS637.weaken (.cons_cons _ (.cons_cons _ (.refl _)))).toHeld
    refine c_draw (k := 7) (fun w => Held w m622 (.box b39 59 [.bool r26.ok, .slice a628 l627.length c630, .int .i64 r26.takes] :: .row (.slice a628 l627.length c630) 42 3 cs631 :: L)) mixed rfl ?_
    replace hH921 := hH921.drew1
    have hS922 := hS637.drew1
    refine d_v (i := 0) rfl (by kernel_rfl) rfl (r_fieldAddr fld59_1 (b := _) (o := _) rfl) hH921 ?_
    refine d_v (i := 1) rfl (by kernel_rfl) rfl (r_box ty36 (k := 1) .here rfl rfl rfl (v := .slice _ _ _) rfl) hH921 ?_
    refine d_v (i := 2) rfl (by kernel_rfl) rfl (r_fieldAddr fld59_2 (b := _) (o := _) rfl) hH921 ?_
    refine d_v (i := 3) rfl (by kernel_rfl) rfl (r_box ty3 (k := 2) .here rfl rfl rfl (v := .int .i64 _) rfl) hH921 ?_
    refine d_v (i := 4) rfl (by kernel_rfl) rfl (r_assign (v := .slice _ _ _) rfl) hH921 ?_
    refine d_v (i := 5) rfl (by kernel_rfl) rfl (r_assign (v := .int .i64 _) rfl) hH921 ?_
    refine d_v (i := 6) rfl (by kernel_rfl) rfl (r_assign (v := .int .i64 _) rfl) hH921 ?_
    refine d_end (by kernel_rfl) ?_
    refine c_ret <| ret_many rfl (.tmp (v := .slice _ _ _) rfl (.tmp (v := .int .i64 _) rfl (.tmp (v := .int .i64 _) rfl .nil))) ?_
    obtain rfl := some_eq hM
    have hS923 := hS922.weaken (.cons _ (.cons_cons _ (.refl _)))
    exact ⟨m622, a628, l627.length, c630, cs631, rfl, le624, row_n (hS923.toHeld.own .here) hrc633 (by decide), hrc633, hS923⟩

theorem cg25 {m : Mem} {L : List Atom} {w : World}  (hS : St w m L)  {fuel : Nat} {r : Fleet} (hM : mg25 fuel  = some r) : Calls P0 25 [].toArray w (Ret fun v w' => ∃ (m' : Mem) (a0 : Option Addr) (n0 : Nat) (c0 : Nat) (cs0 : List Value) (a1 : Option Addr) (n1 : Nat) (c1 : Nat) (cs1 : List Value), v = .agg #[.slice a0 n0 c0, .slice a1 n1 c1, .int .i64 r.cap, .int .i64 r.start, .int .i64 r.back] ∧ m ≤ m' ∧ n0 = r.stops.length ∧ RCs 5 RStop m' cs0 r.stops ∧ n1 = r.minutes.length ∧ RCs 1 (RS 1 RInt) m' cs1 r.minutes ∧ St w' m' (.row (.slice a0 n0 c0) 34 5 cs0 :: .row (.slice a1 n1 c1) 35 1 cs1 :: L)) := by
 rw [mg25] at hM
 refine enter Try.func25 rfl Try.ntmps25 (Nat.le_of_ble_eq_true rfl) ?_
 refine c_seq <| c_region <| wl_alloc ty26 rfl hS ?_
 intro b1 w2 hS3
 refine wl_nil <| c_seq <| c_region <| wl_h hS3.toHeld (r_build ty34 st34 (ps := [(0, [.int .i64 _]), (1, [.int .i64 _]), (3, [.int .i64 _]), (4, [.int .i64 _])]) rfl rfl (cs := [.int .i64 _, .int .i64 _, .int .i64 _, .int .i64 _, .int .i64 _]) rfl) <| wl_h hS3.toHeld (r_build ty34 st34 (ps := [(0, [.int .i64 _]), (3, [.int .i64 _]), (4, [.int .i64 _])]) rfl rfl (cs := [.int .i64 _, .int .i64 _, .int .i64 _, .int .i64 _, .int .i64 _]) rfl) ?_
 refine wl_buildSlice Try.underlying23 ty34 rfl (by decide) (by decide) hS3 (ps := [(0, [.int .i64 _, .int .i64 _, .int .i64 _, .int .i64 _, .int .i64 _]), (1, [.int .i64 _, .int .i64 _, .int .i64 _, .int .i64 _, .int .i64 _])]) rfl rfl (cs := [.int .i64 _, .int .i64 _, .int .i64 _, .int .i64 _, .int .i64 _, .int .i64 _, .int .i64 _, .int .i64 _, .int .i64 _, .int .i64 _]) rfl rfl (by decide) ?_
 intro b5 w6 hS7
 have hrc8 : RCs 5 RStop m [.int .i64 100, .int .i64 70, .int .i64 0, .int .i64 1440, .int .i64 2, .int .i64 100, .int .i64 0, .int .i64 0, .int .i64 1440, .int .i64 2] ([(⟨100, 70, 0, 1440, 2⟩ : Stop), (⟨100, 0, 0, 1440, 2⟩ : Stop)] : List Stop) := (RCs.cons (d := [.int .i64 100, .int .i64 70, .int .i64 0, .int .i64 1440, .int .i64 2]) rfl rfl (RCs.cons (d := [.int .i64 100, .int .i64 0, .int .i64 0, .int .i64 1440, .int .i64 2]) rfl rfl RCs.nil))
 refine wl_buildSlice Try.underlying35 ty3 rfl (by decide) (by decide) hS7 (ps := [(0, [.int .i64 _]), (1, [.int .i64 _]), (2, [.int .i64 _])]) rfl rfl (cs := [.int .i64 _, .int .i64 _, .int .i64 _]) rfl rfl (by decide) ?_
 intro b10 w11 hS12
 have hrc13 : RCs 1 RInt m [.int .i64 0, .int .i64 10, .int .i64 20] ([0, 10, 20] : List Int) := (RCs.cons (d := [.int .i64 0]) rfl rfl (RCs.cons (d := [.int .i64 10]) rfl rfl (RCs.cons (d := [.int .i64 20]) rfl rfl RCs.nil)))
 refine wl_buildSlice Try.underlying35 ty3 rfl (by decide) (by decide) hS12 (ps := [(0, [.int .i64 _]), (1, [.int .i64 _]), (2, [.int .i64 _])]) rfl rfl (cs := [.int .i64 _, .int .i64 _, .int .i64 _]) rfl rfl (by decide) ?_
 intro b15 w16 hS17
 have hrc18 : RCs 1 RInt m [.int .i64 10, .int .i64 0, .int .i64 5] ([10, 0, 5] : List Int) := (RCs.cons (d := [.int .i64 10]) rfl rfl (RCs.cons (d := [.int .i64 0]) rfl rfl (RCs.cons (d := [.int .i64 5]) rfl rfl RCs.nil)))
 refine wl_buildSlice Try.underlying35 ty3 rfl (by decide) (by decide) hS17 (ps := [(0, [.int .i64 _]), (1, [.int .i64 _]), (2, [.int .i64 _])]) rfl rfl (cs := [.int .i64 _, .int .i64 _, .int .i64 _]) rfl rfl (by decide) ?_
 intro b20 w21 hS22
 have hrc23 : RCs 1 RInt m [.int .i64 20, .int .i64 5, .int .i64 0] ([20, 5, 0] : List Int) := (RCs.cons (d := [.int .i64 20]) rfl rfl (RCs.cons (d := [.int .i64 5]) rfl rfl (RCs.cons (d := [.int .i64 0]) rfl rfl RCs.nil)))
 obtain ⟨m24, hm25, hS26, hr27⟩ := hS22.freezeR (.there (.there .here)) hrc13 RInt.mono (by decide)
 have le29 := hm25
 replace hrc8 := RCs.mono RStop.mono hrc8 hm25
 replace hrc13 := RCs.mono RInt.mono hrc13 hm25
 replace hrc18 := RCs.mono RInt.mono hrc18 hm25
 replace hrc23 := RCs.mono RInt.mono hrc23 hm25
 obtain ⟨m30, hm31, hS32, hr33⟩ := hS26.freezeR (.there .here) hrc18 RInt.mono (by decide)
 have le35 := Mem.le_trans le29 hm31
 replace hrc8 := RCs.mono RStop.mono hrc8 hm31
 replace hrc13 := RCs.mono RInt.mono hrc13 hm31
 replace hrc18 := RCs.mono RInt.mono hrc18 hm31
 replace hrc23 := RCs.mono RInt.mono hrc23 hm31
 replace hr27 := RSl.mono RInt.mono hr27 hm31
 obtain ⟨m36, hm37, hS38, hr39⟩ := hS32.freezeR .here hrc23 RInt.mono (by decide)
 have le41 := Mem.le_trans le35 hm37
 replace hrc8 := RCs.mono RStop.mono hrc8 hm37
 replace hrc13 := RCs.mono RInt.mono hrc13 hm37
 replace hrc18 := RCs.mono RInt.mono hrc18 hm37
 replace hrc23 := RCs.mono RInt.mono hrc23 hm37
 replace hr27 := RSl.mono RInt.mono hr27 hm37
 replace hr33 := RSl.mono RInt.mono hr33 hm37
 refine wl_buildSlice Try.underlying24 ty35 rfl (by decide) (by decide) hS38 (ps := [(0, [.slice _ _ _]), (1, [.slice _ _ _]), (2, [.slice _ _ _])]) rfl rfl (cs := [.slice _ _ _, .slice _ _ _, .slice _ _ _]) rfl rfl (by decide) ?_
 intro b43 w44 hS45
 have hrc46 : RCs 1 (RS 1 RInt) m36 [.slice (some ⟨b10, 0, none⟩) 3 3, .slice (some ⟨b15, 0, none⟩) 3 3, .slice (some ⟨b20, 0, none⟩) 3 3] ([[0, 10, 20], [10, 0, 5], [20, 5, 0]] : List (List Int)) := (RCs.cons (d := [.slice (some ⟨b10, 0, none⟩) 3 3]) rfl ⟨_, _, _, rfl, hr27⟩ (RCs.cons (d := [.slice (some ⟨b15, 0, none⟩) 3 3]) rfl ⟨_, _, _, rfl, hr33⟩ (RCs.cons (d := [.slice (some ⟨b20, 0, none⟩) 3 3]) rfl ⟨_, _, _, rfl, hr39⟩ RCs.nil)))
 refine wl_h hS45.toHeld (r_build ty26 st26 (ps := [(0, [.slice _ _ _]), (1, [.slice _ _ _]), (2, [.int .i64 _]), (3, [.int .i64 _]), (4, [.int .i64 _])]) rfl rfl (cs := [.slice _ _ _, .slice _ _ _, .int .i64 _, .int .i64 _, .int .i64 _]) rfl) <| wl_store_box ty26 hS45 rfl (v := .agg #[.slice _ _ _, .slice _ _ _, .int .i64 _, .int .i64 _, .int .i64 _]) rfl (vs := [.slice _ _ _, .slice _ _ _, .int .i64 _, .int .i64 _, .int .i64 _]) rfl rfl rfl (.there (.there .here)) (cs' := [.slice _ _ _, .slice _ _ _, .int .i64 _, .int .i64 _, .int .i64 _]) rfl rfl ?_
 intro w47 hS48
 refine wl_nil <| c_ret <| ret_many rfl (.cell (v := .agg #[.slice _ _ _, .slice _ _ _, .int .i64 _, .int .i64 _, .int .i64 _]) rfl (ty26.run_loadVar (cs := [.slice _ _ _, .slice _ _ _, .int .i64 _, .int .i64 _, .int .i64 _]) (box_at (hS48.toHeld.own (.there (.there .here)))) rfl) .nil) ?_
 obtain rfl := some_eq hM
 have hS49 := hS48.weaken (.cons_cons _ (.cons_cons _ (.cons _ (.refl _))))
 have hS50 := hS49.front (.there .here)
 exact ⟨m36, (some ⟨b5, 0, none⟩), 2, 2, [.int .i64 100, .int .i64 70, .int .i64 0, .int .i64 1440, .int .i64 2, .int .i64 100, .int .i64 0, .int .i64 0, .int .i64 1440, .int .i64 2], (some ⟨b43, 0, none⟩), 3, 3, [.slice (some ⟨b10, 0, none⟩) 3 3, .slice (some ⟨b15, 0, none⟩) 3 3, .slice (some ⟨b20, 0, none⟩) 3 3], rfl, le41, row_n (hS50.toHeld.own .here) hrc8 (by decide), hrc8, row_n (hS50.toHeld.own (.there .here)) hrc46 (by decide), hrc46, hS50⟩

theorem cg87 {m : Mem} {L : List Atom} {w : World} {a1 : Option Addr} {n2 c3 : Nat} {s5 : List Street} {q6 : Street → Option Bool} {g7 : FuncId} {caps8 : List Value} (hS : St w m L) (hr4 : RSl 3 RStreet m a1 n2 c3 s5) (he9 : Ent P0 g7) (hg10 : ∀ (m' : Mem) (E : List Atom) (w' : World) (cs0 : List Value) (x0 : Street) (r : Bool), m ≤ m' → St w' m' (E ++ L) → RStreet m' cs0 x0 → q6 x0 = some r → Calls P0 g7 (([.agg cs0.toArray] : List Value) ++ caps8).toArray w' (Ret fun v w'' => v = .bool r ∧ St w'' m' (E ++ L))) {fuel : Nat} {r : Int} (hM : mg87 fuel s5 q6 = some r) : Calls P0 87 [.slice a1 n2 c3, .func (.func g7) #[] caps8.toArray].toArray w (Ret fun v w' => v = .int .i64 r ∧ St w' m (L)) := by
 rw [mg87] at hM
 obtain rfl := hr4.1
 refine enter Try.func87 rfl Try.ntmps87 (Nat.le_of_ble_eq_true rfl) ?_
 refine c_seq <| c_region <| wl_h hS.toHeld (r_assign (v := .int .i64 _) rfl) <| wl_nil <| c_seq <| c_seq <| c_region <| wl_h hS.toHeld (r_move (v := .slice _ _ _) rfl) ?_
 refine wl_h hS.toHeld (r_len Try.underlying71 (a := _) (n := _) (c := _) rfl) <| wl_h hS.toHeld (r_move (v := .int .i64 _) rfl) <| wl_nil <| c_block <| c_loop (fun k f w => ∃ (x28 : Int), mg87_l0 fuel s5 q6 k x28 = some r ∧ St w m (L) ∧ f 0 = .slice a1 s5.length c3 ∧ f 1 = .func (.func g7) #[] caps8.toArray ∧ f 7 = .int .i64 ((s5.length : Nat) : Int) ∧ f 8 = .int .i64 x28) fuel ⟨0, hM, hS, rfl, rfl, rfl, rfl⟩ ?_
 rintro k_0 f29 w30 ⟨x28, hM, hS32, e33, e34, e35, e36⟩
 refine c_know (t := 0) e33 <| c_know (t := 1) e34 <| c_know (t := 7) e35 <| c_know (t := 8) e36 ?_
 clear e33 e34 e35 e36
 rcases k_0 with _ | k_0
 · exact none_ne hM
 rw [mg87_l0] at hM
 refine c_seq <| c_region <| wl_h hS32.toHeld (r_lss (a := _) (b := _) rfl rfl) <| wl_nil <| c_seq <| c_cond (c := _) rfl (fun h37 => ?_) (fun h37 => ?_)
 ·replace hM := bif_t h37 hM
  refine c_skip <| c_seq <| c_block <| c_seq <| c_region <| wl_h hS32.toHeld (r_move (v := .int .i64 _) rfl) ?_
  refine wl_h hS32.toHeld (r_assign (v := .int .i64 _) rfl) <| wl_nil <| c_seq <| c_region <| wl_h hS32.toHeld (r_move (v := .func (.func g7) #[] caps8.toArray) rfl) ?_
  refine wl_h hS32.toHeld (r_move (v := .slice _ _ _) rfl) <| wl_h hS32.toHeld (r_move (v := .int .i64 _) rfl) ?_
  obtain ⟨x38, hx39, h40, h41, hM⟩ := getK_ok hM
  obtain ⟨b42, o43, rfl⟩ := RSl.elem_a hr4 hx39
  obtain ⟨cs44, hI45, hR46⟩ := RSl.elem_at hr4 hx39
  obtain rfl := hR46
  refine wl_h hS32.toHeld (r_indexAddr Try.underlying71 ty106 (b := _) (o := _) (n := _) (c := _) (i := x28) rfl rfl h40 (RSl.lt hr4 h41)) <| wl_h hS32.toHeld (r_imm ty106 (k := 0) hI45 rfl rfl rfl (v := .agg #[.int .i64 _, .int .i64 _, .int .i64 _]) rfl) ?_
  obtain ⟨r47, hq48, hM⟩ := bnd_ok hM
  refine wl_callv he9 (caps := caps8) rfl (vals := [.agg #[.int .i64 _, .int .i64 _, .int .i64 _]]) rfl (hg10 _ [] _ _ _ _ (Mem.le_refl _) hS32 rfl hq48) ?_
  rintro _ w49 ⟨rfl, hS50⟩
  simp only [List.cons_append, List.nil_append] at hS50
  refine wl_nil <| c_cond (c := _) rfl (fun h51 => ?_) (fun h51 => ?_)
  ·replace hM := bif_t h51 hM
   refine c_seq <| c_region <| wl_h hS50.toHeld (r_move (v := .int .i64 _) rfl) <| wl_h hS50.toHeld (r_assign (v := .int .i64 _) rfl) <| wl_nil <| c_ret <| q_retb ?_
   refine q_retl <| q_retb <| ret_tmp (t := 4) rfl (v := .int .i64 _) rfl ?_
   obtain rfl := some_eq hM
   exact ⟨rfl, hS50⟩
  ·replace hM := bif_f h51 hM
   refine c_skip <| c_nil <| q_norm <| c_region ?_
   obtain ⟨hc52, hM⟩ := chk_ok hM
   refine wl_h hS50.toHeld (r_add (a := _) (b := _) rfl rfl (ok_lo hc52) (ok_hi hc52)) <| wl_h hS50.toHeld (r_move (v := .int .i64 _) rfl) <| wl_nil <| c_nil <| q_loop ?_
   exact ⟨k_0, Nat.lt_succ_self _, x28 + 1, hM, hS50, rfl, rfl, rfl, rfl⟩
 ·replace hM := bif_f h37 hM
  refine c_exit <| q_loopx <| q_hit <| c_seq <| c_region <| wl_h hS32.toHeld (r_assign (v := .int .i64 _) rfl) ?_
  refine wl_nil <| c_ret <| ret_tmp (t := 4) rfl (v := .int .i64 _) rfl ?_
  obtain rfl := some_eq hM
  exact ⟨rfl, hS32⟩

theorem cg70 {m : Mem} {L : List Atom} {w : World} {a1 : Option Addr} {n2 c3 : Nat} {s5 : List Street} {q6 : Street → Option Bool} {g7 : FuncId} {caps8 : List Value} (hS : St w m L) (hr4 : RSl 3 RStreet m a1 n2 c3 s5) (he9 : Ent P0 g7) (hg10 : ∀ (m' : Mem) (E : List Atom) (w' : World) (cs0 : List Value) (x0 : Street) (r : Bool), m ≤ m' → St w' m' (E ++ L) → RStreet m' cs0 x0 → q6 x0 = some r → Calls P0 g7 (([.agg cs0.toArray] : List Value) ++ caps8).toArray w' (Ret fun v w'' => v = .bool r ∧ St w'' m' (E ++ L))) {fuel : Nat} {r : Bool} (hM : mg70 fuel s5 q6 = some r) : Calls P0 70 [.slice a1 n2 c3, .func (.func g7) #[] caps8.toArray].toArray w (Ret fun v w' => v = .bool r ∧ St w' m (L)) := by
 rw [mg70] at hM
 obtain rfl := hr4.1
 refine enter Try.func70 rfl Try.ntmps70 (Nat.le_of_ble_eq_true rfl) ?_
 refine c_seq <| c_region <| wl_h hS.toHeld (r_assign (v := .bool _) rfl) <| wl_nil <| c_seq <| c_region <| wl_h hS.toHeld (r_move (v := .slice _ _ _) rfl) ?_
 refine wl_h hS.toHeld (r_move (v := .func (.func g7) #[] caps8.toArray) rfl) ?_
 obtain ⟨r11, hq12, hM⟩ := bnd_ok hM
 refine wl_call ent87 (vals := [.slice _ _ _, .func (.func g7) #[] caps8.toArray]) rfl (cg87 hS hr4 (q6 := q6) (caps8 := caps8) he9 (fun m' E w' cs0 x0 r hle hSt h0 hq => hg10 m' E w' cs0 x0 r hle hSt h0 hq) hq12) ?_
 rintro _ w14 ⟨rfl, hS15⟩
 refine wl_h hS15.toHeld (r_geq (a := _) (b := _) rfl rfl) <| wl_h hS15.toHeld (r_assign (v := .bool _) rfl) <| wl_nil <| c_ret <| ret_tmp (t := 4) rfl (v := .bool _) rfl ?_
 obtain rfl := some_eq hM
 exact ⟨rfl, hS15⟩

theorem cg73 {m : Mem} {L : List Atom} {w : World} {cs1 : List Value} {r3 : Round} (hS : St w m L) (hx2 : RRound m cs1 r3) {fuel : Nat} {r : (List Int)} (hM : mg73 fuel r3 = some r) : Calls P0 73 [.agg cs1.toArray].toArray w (Ret fun v w' => ∃ (a0 : Option Addr) (n0 : Nat) (c0 : Nat) (cs0 : List Value), v = .slice a0 n0 c0 ∧ n0 = r.length ∧ RCs 1 RInt m cs0 r ∧ St w' m (.row (.slice a0 n0 c0) 3 1 cs0 :: L)) := by
 rw [mg73] at hM
 have hk8 := hx2
 obtain ⟨a4, n5, c6, rfl, hr7⟩ := hx2
 obtain rfl := hr7.1
 refine enter Try.func73 rfl Try.ntmps73 (Nat.le_of_ble_eq_true rfl) ?_
 refine c_seq <| c_region <| wl_box hS (v := .agg #[.int .i64 _, .slice _ _ _]) rfl (cs := [.int .i64 _, .slice _ _ _]) rfl ?_
 intro b9 w10 hS11
 refine wl_h hS11.toHeld (r_assign (v := .slice _ _ _) rfl) <| wl_nil <| c_seq <| c_region <| wl_makeMap hS11 ?_
 intro b13 w14 hS15
 have hp16 : RMap false RInt m [] ([] : List (Int × Int)) := .nil
 refine wl_h hS15.toHeld (r_assign (v := .map (some _)) rfl) <| wl_nil <| c_seq <| c_seq <| c_region <| wl_h hS15.toHeld (r_fieldAddr fld73_1 (b := _) (o := _) rfl) ?_
 refine wl_h hS15.toHeld (r_box ty71 (k := 1) (.there .here) rfl rfl rfl (v := .slice _ _ _) rfl) <| wl_h hS15.toHeld (r_len Try.underlying71 (a := _) (n := _) (c := _) rfl) <| wl_h hS15.toHeld (r_move (v := .int .i64 _) rfl) <| wl_nil <| c_block <| c_loop (fun k f w => ∃ (x351 : Int) (p352 : List (Int × Int)) (es353 : List MapEntry) (ck354 : Nat), mg73_l0 fuel r3 k x351 p352 = some r ∧ RMap false RInt m es353 p352 ∧ St w m (.raw b13 (.map es353.toArray ck354) :: .box b9 73 [.int .i64 r3.corners, .slice a4 r3.streets.length c6] :: L) ∧ f 1 = .pointer (some ⟨b9, 0, none⟩) ∧ f 3 = .map (some b13) ∧ f 10 = .slice a4 r3.streets.length c6 ∧ f 11 = .int .i64 ((r3.streets.length : Nat) : Int) ∧ f 12 = .int .i64 x351) fuel ⟨0, ([] : List (Int × Int)), [], 0, hM, hp16, hS15, rfl, rfl, rfl, rfl, rfl⟩ ?_
 rintro k_0 f356 w357 ⟨x351, p352, es353, ck354, hM, hp355, hS359, e360, e361, e362, e363, e364⟩
 refine c_know (t := 1) e360 <| c_know (t := 3) e361 <| c_know (t := 10) e362 <| c_know (t := 11) e363 <| c_know (t := 12) e364 ?_
 clear e360 e361 e362 e363 e364
 rcases k_0 with _ | k_0
 · exact none_ne hM
 rw [mg73_l0] at hM
 refine c_seq <| c_region <| wl_h hS359.toHeld (r_lss (a := _) (b := _) rfl rfl) <| wl_nil <| c_seq <| c_cond (c := _) rfl (fun h365 => ?_) (fun h365 => ?_)
 ·replace hM := bif_t h365 hM
  refine c_skip <| c_seq <| c_block <| c_seq <| c_region ?_
  obtain ⟨x366, hx367, h368, h369, hM⟩ := getK_ok hM
  obtain ⟨b370, o371, rfl⟩ := RSl.elem_a hr7 hx367
  obtain ⟨cs372, hI373, hR374⟩ := RSl.elem_at hr7 hx367
  obtain rfl := hR374
  refine wl_h hS359.toHeld (r_indexAddr Try.underlying71 ty106 (b := _) (o := _) (n := _) (c := _) (i := x351) rfl rfl h368 (RSl.lt hr7 h369)) <| wl_h hS359.toHeld (r_imm ty106 (k := 0) hI373 rfl rfl rfl (v := .agg #[.int .i64 _, .int .i64 _, .int .i64 _]) rfl) <| wl_alloc ty106 rfl hS359 ?_
  intro b375 w376 hS377
  refine wl_store_box ty106 hS377 rfl (v := .agg #[.int .i64 _, .int .i64 _, .int .i64 _]) rfl (vs := [.int .i64 _, .int .i64 _, .int .i64 _]) rfl rfl rfl .here (cs' := [.int .i64 _, .int .i64 _, .int .i64 _]) rfl rfl ?_
  intro w378 hS379
  refine wl_nil <| c_seq <| c_region <| wl_h hS379.toHeld (r_move (v := .map (some _)) rfl) <| wl_h hS379.toHeld (r_fieldAddr fld106_0 (b := _) (o := _) rfl) ?_
  refine wl_h hS379.toHeld (r_box ty3 (k := 0) .here rfl rfl rfl (v := .int .i64 _) rfl) ?_
  obtain ⟨cs380, hf381, hR382⟩ := RMap.found (z := [.int .i64 0]) (x0 := 0) hp355 rfl x366.a
  obtain rfl := hR382
  refine wl_h hS379.toHeld (r_lookup Try.underlying148 Try.underlying3 ty3 (.there .here) hf381 rfl (k := x366.a) rfl (v := .int .i64 _) rfl) ?_
  obtain ⟨hc383, hM⟩ := chk_ok hM
  refine wl_h hS379.toHeld (r_add (a := _) (b := _) rfl rfl (ok_lo hc383) (ok_hi hc383)) <| wl_mapUpdate Try.underlying148 Try.underlying3 hS379 rfl (k := x366.a) rfl (v := .int .i64 _) rfl (.there .here) hp355 (a := ((mget p352 x366.a).getD 0) + 1) ⟨[.int .i64 (((mget p352 x366.a).getD 0) + 1)], rfl, rfl⟩ ?_
  intro es384 ck385 w386 hp387 hS388
  refine wl_nil <| c_region <| wl_h hS388.toHeld (r_move (v := .map (some _)) rfl) <| wl_h hS388.toHeld (r_fieldAddr fld106_1 (b := _) (o := _) rfl) <| wl_h hS388.toHeld (r_box ty3 (k := 1) (.there .here) rfl rfl rfl (v := .int .i64 _) rfl) ?_
  obtain ⟨cs389, hf390, hR391⟩ := RMap.found (z := [.int .i64 0]) (x0 := 0) hp387 rfl x366.b
  obtain rfl := hR391
  refine wl_h hS388.toHeld (r_lookup Try.underlying148 Try.underlying3 ty3 .here hf390 rfl (k := x366.b) rfl (v := .int .i64 _) rfl) ?_
  obtain ⟨hc392, hM⟩ := chk_ok hM
  refine wl_h hS388.toHeld (r_add (a := _) (b := _) rfl rfl (ok_lo hc392) (ok_hi hc392)) <| wl_mapUpdate Try.underlying148 Try.underlying3 hS388 rfl (k := x366.b) rfl (v := .int .i64 _) rfl .here hp387 (a := ((mget (mset x366.a (((mget p352 x366.a).getD 0) + 1) p352) x366.b).getD 0) + 1) ⟨[.int .i64 (((mget (mset x366.a (((mget p352 x366.a).getD 0) + 1) p352) x366.b).getD 0) + 1)], rfl, rfl⟩ ?_
  intro es393 ck394 w395 hp396 hS397
  refine wl_nil <| c_nil <| q_norm <| c_region ?_
  obtain ⟨hc398, hM⟩ := chk_ok hM
  refine wl_h hS397.toHeld (r_add (a := _) (b := _) rfl rfl (ok_lo hc398) (ok_hi hc398)) <| wl_h hS397.toHeld (r_move (v := .int .i64 _) rfl) <| wl_nil <| c_nil <| q_loop ?_
  have hS399 := hS397.weaken (.cons_cons _ (.cons _ (.cons_cons _ (.refl _))))
  exact ⟨k_0, Nat.lt_succ_self _, x351 + 1, (mset x366.b (((mget (mset x366.a (((mget p352 x366.a).getD 0) + 1) p352) x366.b).getD 0) + 1) (mset x366.a (((mget p352 x366.a).getD 0) + 1) p352)), es393, ck394, hM, hp396, hS399, rfl, rfl, rfl, rfl, rfl⟩
 ·replace hM := bif_f h365 hM
  refine c_exit <| q_loopx <| q_hit <| c_seq <| c_region <| wl_h hS359.toHeld (r_assign (v := .slice _ _ _) rfl) ?_
  refine wl_nil <| c_seq <| c_seq <| c_region <| wl_h hS359.toHeld (r_fieldAddr fld73_0 (b := _) (o := _) rfl) ?_
  refine wl_h hS359.toHeld (r_box ty3 (k := 0) (.there .here) rfl rfl rfl (v := .int .i64 _) rfl) <| wl_h hS359.toHeld (r_move (v := .int .i64 _) rfl) <| wl_nil <| c_block ?_
  have hS489 := hS359.nilRow 3 1
  have hrc490 : RCs 1 RInt m [] ([] : List Int) := RCs.nil
  refine c_loop (fun k f w => ∃ (x491 : Int) (l492 : List Int) (a493 : Option Addr) (n494 : Nat) (c495 : Nat) (cs496 : List Value), mg73_l1 fuel r3 p352 k x491 l492 = some r ∧ n494 = l492.length ∧ RCs 1 RInt m cs496 l492 ∧ St w m (.row (.slice a493 n494 c495) 3 1 cs496 :: .raw b13 (.map es353.toArray ck354) :: .box b9 73 [.int .i64 r3.corners, .slice a4 r3.streets.length c6] :: L) ∧ f 3 = .map (some b13) ∧ f 6 = .slice a493 n494 c495 ∧ f 28 = .int .i64 r3.corners ∧ f 29 = .int .i64 x491) fuel ⟨0, ([] : List Int), none, 0, 0, [], hM, row_n (hS489.toHeld.own .here) hrc490 (by decide), hrc490, hS489, rfl, rfl, rfl, rfl⟩ ?_
  rintro k_1 f499 w500 ⟨x491, l492, a493, n494, c495, cs496, hM, hn497, hrc498, hS502, e503, e504, e505, e506⟩
  subst hn497
  refine c_know (t := 3) e503 <| c_know (t := 6) e504 <| c_know (t := 28) e505 <| c_know (t := 29) e506 ?_
  clear e503 e504 e505 e506
  rcases k_1 with _ | k_1
  · exact none_ne hM
  rw [mg73_l1] at hM
  refine c_seq <| c_region <| wl_h hS502.toHeld (r_lss (a := _) (b := _) rfl rfl) <| wl_nil <| c_seq <| c_cond (c := _) rfl (fun h507 => ?_) (fun h507 => ?_)
  ·replace hM := bif_t h507 hM
   refine c_skip <| c_seq <| c_block <| c_seq <| c_region <| wl_h hS502.toHeld (r_move (v := .int .i64 _) rfl) ?_
   refine wl_h hS502.toHeld (r_assign (v := .int .i64 _) rfl) <| wl_nil <| c_seq <| c_region <| wl_h hS502.toHeld (r_move (v := .map (some _)) rfl) ?_
   refine wl_h hS502.toHeld (r_move (v := .int .i64 _) rfl) ?_
   obtain ⟨cs508, hf509, hR510⟩ := RMap.found (z := [.int .i64 0]) (x0 := 0) hp355 rfl x491
   obtain rfl := hR510
   refine wl_h hS502.toHeld (r_lookup Try.underlying148 Try.underlying3 ty3 (.there .here) hf509 rfl (k := x491) rfl (v := .int .i64 _) rfl) ?_
   obtain ⟨hc511, hM⟩ := chk_ok hM
   refine wl_h hS502.toHeld (r_remk (a := _) (b := _) rfl rfl hc511) <| wl_h hS502.toHeld (r_eql (a := _) (b := _) rfl rfl) <| wl_nil <| c_cond (c := _) rfl (fun h512 => ?_) (fun h512 => ?_)
   ·replace hM := bif_t h512 hM
    refine c_region <| wl_h hS502.toHeld (r_move (v := .slice _ _ _) rfl) <| wl_h hS502.toHeld (r_move (v := .int .i64 _) rfl) <| wl_buildSlice Try.underlying35 ty3 rfl (by decide) (by decide) hS502 (ps := [(0, [.int .i64 _])]) rfl rfl (cs := [.int .i64 _]) rfl rfl (by decide) ?_
    intro b514 w515 hS516
    have hrc517 : RCs 1 RInt m [.int .i64 x491] ([x491] : List Int) := (RCs.cons (d := [.int .i64 x491]) rfl rfl RCs.nil)
    obtain ⟨hc518, hM⟩ := chk_ok hM
    refine wl_append_src Try.underlying35 ty3 rfl (by decide) hS516 (a := _) (nn := _) (c := _) rfl (a2 := _) (k2 := _) (c2 := _) rfl (.there .here) (row_src (hS516.toHeld.own .here) (RCs.allOne RInt.one (by decide) hrc517)) (lim_b hc518 rfl) (lim_a hc518) ?_
    intro a519 c520 w521 hS522
    have hrc524 := RCs.append hrc498 hrc517
    generalize cs496 ++ [.int .i64 x491] = cs525 at hS522 hrc524
    have hS526 := hS522.weaken (.cons_cons _ (.cons _ (.cons_cons _ (.cons_cons _ (.refl _)))))
    refine wl_h hS526.toHeld (r_assign (v := .slice _ _ _) rfl) <| wl_nil <| c_nil <| q_norm <| c_region ?_
    obtain ⟨hc527, hM⟩ := chk_ok hM
    refine wl_h hS526.toHeld (r_add (a := _) (b := _) rfl rfl (ok_lo hc527) (ok_hi hc527)) <| wl_h hS526.toHeld (r_move (v := .int .i64 _) rfl) <| wl_nil <| c_nil <| q_loop ?_
    exact ⟨k_1, Nat.lt_succ_self _, x491 + 1, (l492 ++ [x491]), a519, (l492.length + 1), c520, cs525, hM, row_n (hS526.toHeld.own .here) hrc524 (by decide), hrc524, hS526, rfl, rfl, rfl, rfl⟩
   ·replace hM := bif_f h512 hM
    refine c_skip <| c_nil <| q_norm <| c_region ?_
    obtain ⟨hc528, hM⟩ := chk_ok hM
    refine wl_h hS502.toHeld (r_add (a := _) (b := _) rfl rfl (ok_lo hc528) (ok_hi hc528)) <| wl_h hS502.toHeld (r_move (v := .int .i64 _) rfl) <| wl_nil <| c_nil <| q_loop ?_
    exact ⟨k_1, Nat.lt_succ_self _, x491 + 1, l492, a493, l492.length, c495, cs496, hM, row_n (hS502.toHeld.own .here) hrc498 (by decide), hrc498, hS502, rfl, rfl, rfl, rfl⟩
  ·replace hM := bif_f h507 hM
   refine c_exit <| q_loopx <| q_hit <| c_seq <| c_region <| wl_h hS502.toHeld (r_move (v := .slice _ _ _) rfl) ?_
   refine wl_h hS502.toHeld (r_assign (v := .slice _ _ _) rfl) <| wl_nil <| c_ret <| ret_tmp (t := 2) rfl (v := .slice _ _ _) rfl ?_
   obtain rfl := some_eq hM
   have hS529 := hS502.weaken (.cons_cons _ (.cons _ (.cons _ (.refl _))))
   exact ⟨a493, l492.length, c495, cs496, rfl, row_n (hS529.toHeld.own .here) hrc498 (by decide), hrc498, hS529⟩

theorem cg71 {m : Mem} {L : List Atom} {w : World} {cs1 : List Value} {s3 : Street} {b4 : Nat} {y6 : Int} {a7 : Option Addr} {n8 c9 : Nat} {y11 : (List Street)} (hS : St w m L) (hx2 : RStreet m cs1 s3) (hr10 : RSl 3 RStreet m a7 n8 c9 y11) (hb5 : K.Own L (.box b4 73 [.int .i64 y6, .slice a7 n8 c9])) {fuel : Nat} {r : Bool} (hM : mg71 fuel s3 y6 y11 = some r) : Calls P0 71 [.agg cs1.toArray, .pointer (some ⟨b4, 0, none⟩)].toArray w (Ret fun v w' => v = .bool r ∧ St w' m (L)) := by
 rw [mg71] at hM
 obtain rfl := hx2
 obtain rfl := hr10.1
 refine enter Try.func71 rfl Try.ntmps71 (Nat.le_of_ble_eq_true rfl) ?_
 refine c_seq <| c_region <| wl_box hS (v := .agg #[.int .i64 _, .int .i64 _, .int .i64 _]) rfl (cs := [.int .i64 _, .int .i64 _, .int .i64 _]) rfl ?_
 intro b12 w13 hS14
 refine wl_h hS14.toHeld (r_assign (v := .bool _) rfl) <| wl_nil <| c_seq <| c_region <| wl_h hS14.toHeld (r_fieldAddr fld106_0 (b := _) (o := _) rfl) ?_
 refine wl_h hS14.toHeld (r_box ty3 (k := 0) .here rfl rfl rfl (v := .int .i64 _) rfl) <| wl_h hS14.toHeld (r_fieldAddr fld73_0 (b := _) (o := _) rfl) <| wl_h hS14.toHeld (r_box ty3 (k := 0) (.there hb5) rfl rfl rfl (v := .int .i64 _) rfl) ?_
 obtain ⟨hc15, hM⟩ := chk_ok hM
 refine wl_h hS14.toHeld (r_sub (a := _) (b := _) rfl rfl (ok_lo hc15) (ok_hi hc15)) ?_
 obtain ⟨r16, hq17, hM⟩ := bnd_ok hM
 refine wl_call ent33 (vals := [.int .i64 _, .int .i64 _, .int .i64 _]) rfl (cg33 hS14 hq17) ?_
 rintro _ w19 ⟨rfl, hS20⟩
 refine wl_h hS20.toHeld (r_not (b := _) rfl) <| wl_h hS20.toHeld (r_move (v := .bool _) rfl) <| wl_split rfl (c := _) (t := 11) (fun h21 => ?_) (fun h21 => ?_)
 ·replace hM := bif_t h21 hM
  refine wl_off (t := 11) (b := true) rfl rfl rfl ?_
  refine wl_off (t := 11) (b := true) rfl rfl rfl ?_
  refine wl_off (t := 11) (b := true) rfl rfl rfl ?_
  refine wl_off (t := 11) (b := true) rfl rfl rfl ?_
  refine wl_off (t := 11) (b := true) rfl rfl rfl ?_
  refine wl_off (t := 11) (b := true) rfl rfl rfl ?_
  refine wl_off (t := 11) (b := true) rfl rfl rfl ?_
  refine wl_h hS20.toHeld (r_pick_t rfl (v := .bool _) rfl) <| wl_h hS20.toHeld (r_move (v := .bool _) rfl) <| wl_off (t := 20) (b := true) rfl rfl rfl ?_
  refine wl_off (t := 20) (b := true) rfl rfl rfl ?_
  refine wl_off (t := 20) (b := true) rfl rfl rfl ?_
  refine wl_off (t := 20) (b := true) rfl rfl rfl ?_
  refine wl_off (t := 20) (b := true) rfl rfl rfl ?_
  refine wl_h hS20.toHeld (r_pick_t rfl (v := .bool _) rfl) <| wl_h hS20.toHeld (r_move (v := .bool _) rfl) <| wl_off (t := 27) (b := true) rfl rfl rfl ?_
  refine wl_off (t := 27) (b := true) rfl rfl rfl ?_
  refine wl_off (t := 27) (b := true) rfl rfl rfl ?_
  refine wl_off (t := 27) (b := true) rfl rfl rfl ?_
  refine wl_h hS20.toHeld (r_pick_t rfl (v := .bool _) rfl) <| wl_h hS20.toHeld (r_assign (v := .bool _) rfl) <| wl_nil <| c_ret <| ret_tmp (t := 3) rfl (v := .bool _) rfl ?_
  obtain rfl := some_eq hM
  have hS22 := hS20.weaken (.cons _ (.refl _))
  exact ⟨rfl, hS22⟩
 ·replace hM := bif_f h21 hM
  refine wl_on (t := 11) rfl rfl ?_
  refine wl_h hS20.toHeld (r_fieldAddr fld106_1 (b := _) (o := _) rfl) <| wl_on (t := 11) rfl rfl ?_
  refine wl_h hS20.toHeld (r_box ty3 (k := 1) .here rfl rfl rfl (v := .int .i64 _) rfl) <| wl_on (t := 11) rfl rfl ?_
  refine wl_h hS20.toHeld (r_fieldAddr fld73_0 (b := _) (o := _) rfl) <| wl_on (t := 11) rfl rfl ?_
  refine wl_h hS20.toHeld (r_box ty3 (k := 0) (.there hb5) rfl rfl rfl (v := .int .i64 _) rfl) <| wl_on (t := 11) rfl rfl ?_
  obtain ⟨hc23, hM⟩ := chk_ok hM
  refine wl_h hS20.toHeld (r_sub (a := _) (b := _) rfl rfl (ok_lo hc23) (ok_hi hc23)) <| wl_on (t := 11) rfl rfl ?_
  obtain ⟨r24, hq25, hM⟩ := bnd_ok hM
  refine wl_call ent33 (vals := [.int .i64 _, .int .i64 _, .int .i64 _]) rfl (cg33 hS20 hq25) ?_
  rintro _ w27 ⟨rfl, hS28⟩
  refine wl_on (t := 11) rfl rfl ?_
  refine wl_h hS28.toHeld (r_not (b := _) rfl) <| wl_h hS28.toHeld (r_pick_f rfl (v := .bool _) rfl) <| wl_h hS28.toHeld (r_move (v := .bool _) rfl) <| wl_split rfl (c := _) (t := 20) (fun h29 => ?_) (fun h29 => ?_)
  ·replace hM := bif_t h29 hM
   refine wl_off (t := 20) (b := true) rfl rfl rfl ?_
   refine wl_off (t := 20) (b := true) rfl rfl rfl ?_
   refine wl_off (t := 20) (b := true) rfl rfl rfl ?_
   refine wl_off (t := 20) (b := true) rfl rfl rfl ?_
   refine wl_off (t := 20) (b := true) rfl rfl rfl ?_
   refine wl_h hS28.toHeld (r_pick_t rfl (v := .bool _) rfl) <| wl_h hS28.toHeld (r_move (v := .bool _) rfl) <| wl_off (t := 27) (b := true) rfl rfl rfl ?_
   refine wl_off (t := 27) (b := true) rfl rfl rfl ?_
   refine wl_off (t := 27) (b := true) rfl rfl rfl ?_
   refine wl_off (t := 27) (b := true) rfl rfl rfl ?_
   refine wl_h hS28.toHeld (r_pick_t rfl (v := .bool _) rfl) <| wl_h hS28.toHeld (r_assign (v := .bool _) rfl) <| wl_nil <| c_ret <| ret_tmp (t := 3) rfl (v := .bool _) rfl ?_
   obtain rfl := some_eq hM
   have hS30 := hS28.weaken (.cons _ (.refl _))
   exact ⟨rfl, hS30⟩
  ·replace hM := bif_f h29 hM
   refine wl_on (t := 20) rfl rfl ?_
   refine wl_h hS28.toHeld (r_fieldAddr fld106_0 (b := _) (o := _) rfl) <| wl_on (t := 20) rfl rfl ?_
   refine wl_h hS28.toHeld (r_box ty3 (k := 0) .here rfl rfl rfl (v := .int .i64 _) rfl) <| wl_on (t := 20) rfl rfl ?_
   refine wl_h hS28.toHeld (r_fieldAddr fld106_1 (b := _) (o := _) rfl) <| wl_on (t := 20) rfl rfl ?_
   refine wl_h hS28.toHeld (r_box ty3 (k := 1) .here rfl rfl rfl (v := .int .i64 _) rfl) <| wl_on (t := 20) rfl rfl ?_
   refine wl_h hS28.toHeld (r_eql (a := _) (b := _) rfl rfl) <| wl_h hS28.toHeld (r_pick_f rfl (v := .bool _) rfl) <| wl_h hS28.toHeld (r_move (v := .bool _) rfl) <| wl_split rfl (c := _) (t := 27) (fun h31 => ?_) (fun h31 => ?_)
   ·replace hM := bif_t h31 hM
    refine wl_off (t := 27) (b := true) rfl rfl rfl ?_
    refine wl_off (t := 27) (b := true) rfl rfl rfl ?_
    refine wl_off (t := 27) (b := true) rfl rfl rfl ?_
    refine wl_off (t := 27) (b := true) rfl rfl rfl ?_
    refine wl_h hS28.toHeld (r_pick_t rfl (v := .bool _) rfl) <| wl_h hS28.toHeld (r_assign (v := .bool _) rfl) <| wl_nil <| c_ret <| ret_tmp (t := 3) rfl (v := .bool _) rfl ?_
    obtain rfl := some_eq hM
    have hS32 := hS28.weaken (.cons _ (.refl _))
    exact ⟨rfl, hS32⟩
   ·replace hM := bif_f h31 hM
    refine wl_on (t := 27) rfl rfl ?_
    refine wl_h hS28.toHeld (r_fieldAddr fld106_2 (b := _) (o := _) rfl) <| wl_on (t := 27) rfl rfl ?_
    refine wl_h hS28.toHeld (r_box ty3 (k := 2) .here rfl rfl rfl (v := .int .i64 _) rfl) <| wl_on (t := 27) rfl rfl ?_
    obtain ⟨r33, hq34, hM⟩ := bnd_ok hM
    refine wl_call ent33 (vals := [.int .i64 _, .int .i64 _, .int .i64 _]) rfl (cg33 hS28 hq34) ?_
    rintro _ w36 ⟨rfl, hS37⟩
    refine wl_on (t := 27) rfl rfl ?_
    refine wl_h hS37.toHeld (r_not (b := _) rfl) <| wl_h hS37.toHeld (r_pick_f rfl (v := .bool _) rfl) <| wl_h hS37.toHeld (r_assign (v := .bool _) rfl) <| wl_nil <| c_ret <| ret_tmp (t := 3) rfl (v := .bool _) rfl ?_
    obtain rfl := some_eq hM
    have hS38 := hS37.weaken (.cons _ (.refl _))
    exact ⟨rfl, hS38⟩

theorem cg72 {m : Mem} {L : List Atom} {w : World} {cs1 : List Value} {s3 : Street} {b4 : Nat} {y6 : Int} (hS : St w m L) (hx2 : RStreet m cs1 s3) (hb5 : K.Own L (.box b4 3 [.int .i64 y6])) {fuel : Nat} {r : Bool} (hM : mg72 fuel s3 y6 = some r) : Calls P0 72 [.agg cs1.toArray, .pointer (some ⟨b4, 0, none⟩)].toArray w (Ret fun v w' => v = .bool r ∧ St w' m (L)) := by
 rw [mg72] at hM
 obtain rfl := hx2
 refine enter Try.func72 rfl Try.ntmps72 (Nat.le_of_ble_eq_true rfl) ?_
 refine c_seq <| c_region <| wl_box hS (v := .agg #[.int .i64 _, .int .i64 _, .int .i64 _]) rfl (cs := [.int .i64 _, .int .i64 _, .int .i64 _]) rfl ?_
 intro b7 w8 hS9
 refine wl_h hS9.toHeld (r_assign (v := .bool _) rfl) <| wl_nil <| c_seq <| c_region <| wl_h hS9.toHeld (r_box ty3 (k := 0) (.there hb5) rfl rfl rfl (v := .int .i64 _) rfl) ?_
 refine wl_h hS9.toHeld (r_fieldAddr fld106_0 (b := _) (o := _) rfl) <| wl_h hS9.toHeld (r_box ty3 (k := 0) .here rfl rfl rfl (v := .int .i64 _) rfl) ?_
 obtain ⟨hc10, hM⟩ := chk_ok hM
 refine wl_h hS9.toHeld (r_shr (a := _) (b := _) rfl rfl hc10) <| wl_h hS9.toHeld (r_and (a := _) (b := _) rfl rfl) <| wl_h hS9.toHeld (r_eql (a := _) (b := _) rfl rfl) <| wl_h hS9.toHeld (r_assign (v := .bool _) rfl) <| wl_nil <| c_ret <| ret_tmp (t := 3) rfl (v := .bool _) rfl ?_
 obtain rfl := some_eq hM
 have hS11 := hS9.weaken (.cons _ (.refl _))
 exact ⟨rfl, hS11⟩

theorem cg52 {m : Mem} {L : List Atom} {w : World} {cs1 : List Value} {r3 : Round} (hS : St w m L) (hx2 : RRound m cs1 r3) {fuel : Nat} {r : Int} (hM : mg52 fuel r3 = some r) : Calls P0 52 [.agg cs1.toArray].toArray w (Ret fun v w' => v = .int .i64 r ∧ St w' m (L)) := by
 rw [mg52] at hM
 have hk8 := hx2
 obtain ⟨a4, n5, c6, rfl, hr7⟩ := hx2
 obtain rfl := hr7.1
 refine enter Try.func52 rfl Try.ntmps52 (Nat.le_of_ble_eq_true rfl) ?_
 refine c_seq <| c_region <| wl_box hS (v := .agg #[.int .i64 _, .slice _ _ _]) rfl (cs := [.int .i64 _, .slice _ _ _]) rfl ?_
 intro b9 w10 hS11
 refine wl_h hS11.toHeld (r_assign (v := .int .i64 _) rfl) <| wl_nil <| c_seq <| c_seq <| c_region <| wl_h hS11.toHeld (r_fieldAddr fld73_0 (b := _) (o := _) rfl) ?_
 refine wl_h hS11.toHeld (r_box ty3 (k := 0) .here rfl rfl rfl (v := .int .i64 _) rfl) ?_
 obtain ⟨r12, hq13, hM⟩ := bnd_ok hM
 refine wl_call ent33 (vals := [.int .i64 _, .int .i64 _, .int .i64 _]) rfl (cg33 hS11 hq13) ?_
 rintro _ w15 ⟨rfl, hS16⟩
 refine wl_h hS16.toHeld (r_not (b := _) rfl) <| wl_h hS16.toHeld (r_move (v := .bool _) rfl) <| wl_split rfl (c := _) (t := 10) (fun h17 => ?_) (fun h17 => ?_)
 ·replace hM := bif_t h17 hM
  refine wl_off (t := 10) (b := true) rfl rfl rfl ?_
  refine wl_off (t := 10) (b := true) rfl rfl rfl ?_
  refine wl_off (t := 10) (b := true) rfl rfl rfl ?_
  refine wl_off (t := 10) (b := true) rfl rfl rfl ?_
  refine wl_h hS16.toHeld (r_pick_t rfl (v := .bool _) rfl) <| wl_nil <| c_true rfl <| c_seq <| c_region <| wl_h hS16.toHeld (r_assign (v := .int .i64 _) rfl) ?_
  refine wl_nil <| c_ret <| ret_tmp (t := 2) rfl (v := .int .i64 _) rfl ?_
  obtain rfl := some_eq hM
  have hS18 := hS16.weaken (.cons _ (.refl _))
  exact ⟨rfl, hS18⟩
 ·replace hM := bif_f h17 hM
  refine wl_on (t := 10) rfl rfl ?_
  refine wl_h hS16.toHeld (r_fieldAddr fld73_1 (b := _) (o := _) rfl) <| wl_on (t := 10) rfl rfl ?_
  refine wl_h hS16.toHeld (r_box ty71 (k := 1) .here rfl rfl rfl (v := .slice _ _ _) rfl) <| wl_on (t := 10) rfl rfl ?_
  refine wl_h hS16.toHeld (r_len Try.underlying71 (a := _) (n := _) (c := _) rfl) <| wl_on (t := 10) rfl rfl ?_
  refine wl_h hS16.toHeld (r_gtr (a := _) (b := _) rfl rfl) <| wl_h hS16.toHeld (r_pick_f rfl (v := .bool _) rfl) <| wl_nil <| c_cond (c := _) rfl (fun h19 => ?_) (fun h19 => ?_)
  ·replace hM := bif_t h19 hM
   refine c_seq <| c_region <| wl_h hS16.toHeld (r_assign (v := .int .i64 _) rfl) <| wl_nil <| c_ret <| ret_tmp (t := 2) rfl (v := .int .i64 _) rfl ?_
   obtain rfl := some_eq hM
   have hS20 := hS16.weaken (.cons _ (.refl _))
   exact ⟨rfl, hS20⟩
  ·replace hM := bif_f h19 hM
   refine c_skip <| c_seq <| c_seq <| c_region <| wl_h hS16.toHeld (r_fieldAddr fld73_1 (b := _) (o := _) rfl) ?_
   refine wl_h hS16.toHeld (r_box ty71 (k := 1) .here rfl rfl rfl (v := .slice _ _ _) rfl) <| wl_h hS16.toHeld (r_makeFunc (vs := [.pointer (some ⟨_, _, none⟩)]) rfl) ?_
   obtain ⟨r21, hq22, hM⟩ := bnd_ok hM
   refine wl_call ent70 (vals := [.slice _ _ _, .func (.func 71) #[] #[.pointer (some ⟨_, _, none⟩)]]) rfl (cg70 hS16 hr7 (q6 := (fun x0 => mg71 fuel x0 r3.corners r3.streets)) (caps8 := [.pointer (some ⟨b9, 0, none⟩)]) ent71 (fun m' E w' cs0 x0 r hle hSt h0 hq => cg71 hSt h0 (RSl.mono RStreet.mono hr7 hle) (Own.app .here) hq) hq22) ?_
   rintro _ w24 ⟨rfl, hS25⟩
   refine wl_nil <| c_cond (c := _) rfl (fun h26 => ?_) (fun h26 => ?_)
   ·replace hM := bif_t h26 hM
    refine c_seq <| c_region <| wl_h hS25.toHeld (r_assign (v := .int .i64 _) rfl) <| wl_nil <| c_ret <| ret_tmp (t := 2) rfl (v := .int .i64 _) rfl ?_
    obtain rfl := some_eq hM
    have hS27 := hS25.weaken (.cons _ (.refl _))
    exact ⟨rfl, hS27⟩
   ·replace hM := bif_f h26 hM
    refine c_skip <| c_seq <| c_seq <| c_region <| wl_h hS25.toHeld (r_fieldAddr fld73_1 (b := _) (o := _) rfl) ?_
    refine wl_h hS25.toHeld (r_box ty71 (k := 1) .here rfl rfl rfl (v := .slice _ _ _) rfl) <| wl_h hS25.toHeld (r_len Try.underlying71 (a := _) (n := _) (c := _) rfl) <| wl_h hS25.toHeld (r_gtr (a := _) (b := _) rfl rfl) <| wl_nil <| c_cond (c := _) rfl (fun h28 => ?_) (fun h28 => ?_)
    ·replace hM := bif_t h28 hM
     refine c_seq <| c_region <| wl_h hS25.toHeld (r_fieldAddr fld73_1 (b := _) (o := _) rfl) <| wl_h hS25.toHeld (r_box ty71 (k := 1) .here rfl rfl rfl (v := .slice _ _ _) rfl) ?_
     obtain ⟨x29, hx30, h31, h32, hM⟩ := getK_ok hM
     obtain ⟨b33, o34, rfl⟩ := RSl.elem_a hr7 hx30
     obtain ⟨cs35, hI36, hR37⟩ := RSl.elem_at hr7 hx30
     obtain rfl := hR37
     refine wl_h hS25.toHeld (r_indexAddr Try.underlying71 ty106 (b := _) (o := _) (n := _) (c := _) (i := 0) rfl rfl h31 (RSl.lt hr7 h32)) <| wl_h hS25.toHeld (r_fieldAddr fld106_0 (b := _) (o := _) rfl) <| wl_h hS25.toHeld (r_imm ty3 (k := 0) hI36 rfl rfl rfl (v := .int .i64 _) rfl) ?_
     obtain ⟨hc38, hM⟩ := chk_ok hM
     refine wl_h hS25.toHeld (r_shl (a := _) (b := _) rfl rfl hc38) <| wl_alloc ty3 rfl hS25 ?_
     intro b39 w40 hS41
     refine wl_store_box ty3 hS41 rfl (v := .int .i64 _) rfl (vs := [.int .i64 _]) rfl rfl rfl .here (cs' := [.int .i64 _]) rfl rfl ?_
     intro w42 hS43
     refine wl_nil <| c_seq <| c_seq <| c_region <| wl_h hS43.toHeld (r_fieldAddr fld73_0 (b := _) (o := _) rfl) ?_
     refine wl_h hS43.toHeld (r_box ty3 (k := 0) (.there .here) rfl rfl rfl (v := .int .i64 _) rfl) <| wl_h hS43.toHeld (r_move (v := .int .i64 _) rfl) <| wl_nil <| c_block <| c_loop (fun k f w => ∃ (x447 : Int) (y448 : Int), mg52_l0 fuel r3 k x447 y448 = some r ∧ St w m (.box b39 3 [.int .i64 y448] :: .box b9 73 [.int .i64 r3.corners, .slice (some ⟨b33, o34, none⟩) r3.streets.length c6] :: L) ∧ f 1 = .pointer (some ⟨b9, 0, none⟩) ∧ f 3 = .pointer (some ⟨b39, 0, none⟩) ∧ f 31 = .int .i64 r3.corners ∧ f 32 = .int .i64 x447) fuel ⟨0, ishl 1 x29.a, hM, hS43, rfl, rfl, rfl, rfl⟩ ?_
     rintro k_0 f449 w450 ⟨x447, y448, hM, hS452, e453, e454, e455, e456⟩
     refine c_know (t := 1) e453 <| c_know (t := 3) e454 <| c_know (t := 31) e455 <| c_know (t := 32) e456 ?_
     clear e453 e454 e455 e456
     rcases k_0 with _ | k_0
     · exact none_ne hM
     rw [mg52_l0] at hM
     refine c_seq <| c_region <| wl_h hS452.toHeld (r_lss (a := _) (b := _) rfl rfl) <| wl_nil <| c_seq <| c_cond (c := _) rfl (fun h457 => ?_) (fun h457 => ?_)
     ·replace hM := bif_t h457 hM
      refine c_skip <| c_seq <| c_block <| c_seq <| c_region <| wl_h hS452.toHeld (r_fieldAddr fld73_1 (b := _) (o := _) rfl) ?_
      refine wl_h hS452.toHeld (r_box ty71 (k := 1) (.there .here) rfl rfl rfl (v := .slice _ _ _) rfl) <| wl_h hS452.toHeld (r_len Try.underlying71 (a := _) (n := _) (c := _) rfl) <| wl_h hS452.toHeld (r_move (v := .int .i64 _) rfl) <| wl_nil <| c_block <| c_loop (fun k f w => ∃ (x567 : Int) (y568 : Int), mg52_l1 fuel r3 x447 (mg52_l0 fuel r3 k_0) k x567 y568 = some r ∧ St w m (.box b39 3 [.int .i64 y568] :: .box b9 73 [.int .i64 r3.corners, .slice (some ⟨b33, o34, none⟩) r3.streets.length c6] :: L) ∧ f 1 = .pointer (some ⟨b9, 0, none⟩) ∧ f 3 = .pointer (some ⟨b39, 0, none⟩) ∧ f 31 = .int .i64 r3.corners ∧ f 32 = .int .i64 x447 ∧ f 35 = .slice (some ⟨b33, o34, none⟩) r3.streets.length c6 ∧ f 36 = .int .i64 ((r3.streets.length : Nat) : Int) ∧ f 37 = .int .i64 x567) fuel ⟨0, y448, hM, hS452, rfl, rfl, rfl, rfl, rfl, rfl, rfl⟩ ?_
      rintro k_1 f569 w570 ⟨x567, y568, hM, hS572, e573, e574, e575, e576, e577, e578, e579⟩
      refine c_know (t := 1) e573 <| c_know (t := 3) e574 <| c_know (t := 31) e575 <| c_know (t := 32) e576 <| c_know (t := 35) e577 ?_
      refine c_know (t := 36) e578 <| c_know (t := 37) e579 ?_
      clear e573 e574 e575 e576 e577 e578 e579
      rcases k_1 with _ | k_1
      · exact none_ne hM
      rw [mg52_l1] at hM
      refine c_seq <| c_region <| wl_h hS572.toHeld (r_lss (a := _) (b := _) rfl rfl) <| wl_nil <| c_seq <| c_cond (c := _) rfl (fun h580 => ?_) (fun h580 => ?_)
      ·replace hM := bif_t h580 hM
       refine c_skip <| c_seq <| c_block <| c_seq <| c_region ?_
       obtain ⟨x581, hx582, h583, h584, hM⟩ := getK_ok hM
       obtain ⟨cs585, hI586, hR587⟩ := RSl.elem_at hr7 hx582
       obtain rfl := hR587
       refine wl_h hS572.toHeld (r_indexAddr Try.underlying71 ty106 (b := _) (o := _) (n := _) (c := _) (i := x567) rfl rfl h583 (RSl.lt hr7 h584)) <| wl_h hS572.toHeld (r_imm ty106 (k := 0) hI586 rfl rfl rfl (v := .agg #[.int .i64 _, .int .i64 _, .int .i64 _]) rfl) <| wl_alloc ty106 rfl hS572 ?_
       intro b588 w589 hS590
       refine wl_store_box ty106 hS590 rfl (v := .agg #[.int .i64 _, .int .i64 _, .int .i64 _]) rfl (vs := [.int .i64 _, .int .i64 _, .int .i64 _]) rfl rfl rfl .here (cs' := [.int .i64 _, .int .i64 _, .int .i64 _]) rfl rfl ?_
       intro w591 hS592
       refine wl_nil <| c_seq <| c_region <| wl_h hS592.toHeld (r_box ty3 (k := 0) (.there .here) rfl rfl rfl (v := .int .i64 _) rfl) <| wl_h hS592.toHeld (r_fieldAddr fld106_0 (b := _) (o := _) rfl) ?_
       refine wl_h hS592.toHeld (r_box ty3 (k := 0) .here rfl rfl rfl (v := .int .i64 _) rfl) ?_
       obtain ⟨hc593, hM⟩ := chk_ok hM
       refine wl_h hS592.toHeld (r_shr (a := _) (b := _) rfl rfl hc593) <| wl_h hS592.toHeld (r_and (a := _) (b := _) rfl rfl) <| wl_h hS592.toHeld (r_eql (a := _) (b := _) rfl rfl) <| wl_h hS592.toHeld (r_move (v := .bool _) rfl) <| wl_split rfl (c := _) (t := 47) (fun h594 => ?_) (fun h594 => ?_)
       ·replace hM := bif_t h594 hM
        refine wl_off (t := 47) (b := true) rfl rfl rfl ?_
        refine wl_off (t := 47) (b := true) rfl rfl rfl ?_
        refine wl_off (t := 47) (b := true) rfl rfl rfl ?_
        refine wl_off (t := 47) (b := true) rfl rfl rfl ?_
        refine wl_off (t := 47) (b := true) rfl rfl rfl ?_
        refine wl_off (t := 47) (b := true) rfl rfl rfl ?_
        refine wl_h hS592.toHeld (r_pick_t rfl (v := .bool _) rfl) <| wl_nil <| c_true rfl ?_
        have hH603 := (hS592.weaken (.cons_cons _ (.cons _ (.cons_cons _ (.refl _))))).toHeld
        refine c_draw (k := 10) (fun w => Held w m (.box b588 106 [.int .i64 x581.a, .int .i64 x581.b, .int .i64 x581.length] :: .box b9 73 [.int .i64 r3.corners, .slice (some ⟨b33, o34, none⟩) r3.streets.length c6] :: L)) mixed rfl ?_
        replace hH603 := hH603.drew1
        have hS604 := hS592.drew1
        refine d_v (i := 1) rfl (by kernel_rfl) rfl (r_fieldAddr fld106_0 (b := _) (o := _) rfl) hH603 ?_
        refine d_v (i := 2) rfl (by kernel_rfl) rfl (r_box ty3 (k := 0) .here rfl rfl rfl (v := .int .i64 _) rfl) hH603 ?_
        obtain ⟨hc605, hM⟩ := chk_ok hM
        refine d_v (i := 3) rfl (by kernel_rfl) rfl (r_shl (a := _) (b := _) rfl rfl hc605) hH603 ?_
        refine d_v (i := 4) rfl (by kernel_rfl) rfl (r_fieldAddr fld106_1 (b := _) (o := _) rfl) hH603 ?_
        refine d_v (i := 5) rfl (by kernel_rfl) rfl (r_box ty3 (k := 1) .here rfl rfl rfl (v := .int .i64 _) rfl) hH603 ?_
        obtain ⟨hc606, hM⟩ := chk_ok hM
        refine d_v (i := 6) rfl (by kernel_rfl) rfl (r_shl (a := _) (b := _) rfl rfl hc606) hH603 ?_
        refine d_v (i := 7) rfl (by kernel_rfl) rfl (r_or (a := _) (b := _) rfl rfl) hH603 ?_
        refine d_all (rs := [0]) (by kernel_rfl) (by simp) (fun j hj o ho => ?_)
        obtain rfl : j = 0 := by simpa using hj
        cases ho
        refine wl_h hS604.toHeld (r_box ty3 (k := 0) (.there .here) rfl rfl rfl (v := .int .i64 _) rfl) <| wl_nil ?_
        have hH607 := hS604.toHeld.mono (Mem.le_refl _) (List.Sublist.subset (.cons_cons _ (.cons _ (.cons_cons _ (.refl _)))))
        refine ⟨hH607, ?_⟩
        refine d_v (i := 8) rfl (by kernel_rfl) rfl (r_or (a := _) (b := _) rfl rfl) hH607 ?_
        refine d_all (rs := [9]) (by kernel_rfl) (by simp) (fun j hj o ho => ?_)
        obtain rfl : j = 9 := by simpa using hj
        cases ho
        refine wl_store_box ty3 hS604 rfl (v := .int .i64 _) rfl (vs := [.int .i64 _]) rfl rfl rfl (.there .here) (cs' := [.int .i64 _]) rfl rfl ?_
        intro w608 hS609
        refine wl_nil ?_
        have hH610 := hS609.toHeld.mono (Mem.le_refl _) (List.Sublist.subset (.cons_cons _ (.cons _ (.cons_cons _ (.refl _)))))
        refine ⟨hH610, ?_⟩
        refine d_end (by kernel_rfl) ?_
        refine c_nil <| q_norm <| c_region ?_
        obtain ⟨hc611, hM⟩ := chk_ok hM
        refine wl_h hS609.toHeld (r_add (a := _) (b := _) rfl rfl (ok_lo hc611) (ok_hi hc611)) <| wl_h hS609.toHeld (r_move (v := .int .i64 _) rfl) <| wl_nil <| c_nil <| q_loop ?_
        have hS612 := hS609.weaken (.cons _ (.cons_cons _ (.cons_cons _ (.refl _))))
        exact ⟨k_1, Nat.lt_succ_self _, x567 + 1, ior y568 (ior (ishl 1 x581.a) (ishl 1 x581.b)), hM, hS612, rfl, rfl, rfl, rfl, rfl, rfl, rfl⟩
       ·replace hM := bif_f h594 hM
        refine wl_on (t := 47) rfl rfl ?_
        refine wl_h hS592.toHeld (r_box ty3 (k := 0) (.there .here) rfl rfl rfl (v := .int .i64 _) rfl) <| wl_on (t := 47) rfl rfl ?_
        refine wl_h hS592.toHeld (r_fieldAddr fld106_1 (b := _) (o := _) rfl) <| wl_on (t := 47) rfl rfl ?_
        refine wl_h hS592.toHeld (r_box ty3 (k := 1) .here rfl rfl rfl (v := .int .i64 _) rfl) <| wl_on (t := 47) rfl rfl ?_
        obtain ⟨hc613, hM⟩ := chk_ok hM
        refine wl_h hS592.toHeld (r_shr (a := _) (b := _) rfl rfl hc613) <| wl_on (t := 47) rfl rfl ?_
        refine wl_h hS592.toHeld (r_and (a := _) (b := _) rfl rfl) <| wl_on (t := 47) rfl rfl ?_
        refine wl_h hS592.toHeld (r_eql (a := _) (b := _) rfl rfl) <| wl_h hS592.toHeld (r_pick_f rfl (v := .bool _) rfl) <| wl_nil <| c_cond (c := _) rfl (fun h614 => ?_) (fun h614 => ?_)
        ·replace hM := bif_t h614 hM
         have hH623 := (hS592.weaken (.cons_cons _ (.cons _ (.cons_cons _ (.refl _))))).toHeld
         refine c_draw (k := 10) (fun w => Held w m (.box b588 106 [.int .i64 x581.a, .int .i64 x581.b, .int .i64 x581.length] :: .box b9 73 [.int .i64 r3.corners, .slice (some ⟨b33, o34, none⟩) r3.streets.length c6] :: L)) mixed rfl ?_
         replace hH623 := hH623.drew1
         have hS624 := hS592.drew1
         refine d_v (i := 1) rfl (by kernel_rfl) rfl (r_fieldAddr fld106_0 (b := _) (o := _) rfl) hH623 ?_
         refine d_v (i := 2) rfl (by kernel_rfl) rfl (r_box ty3 (k := 0) .here rfl rfl rfl (v := .int .i64 _) rfl) hH623 ?_
         obtain ⟨hc625, hM⟩ := chk_ok hM
         refine d_v (i := 3) rfl (by kernel_rfl) rfl (r_shl (a := _) (b := _) rfl rfl hc625) hH623 ?_
         refine d_v (i := 4) rfl (by kernel_rfl) rfl (r_fieldAddr fld106_1 (b := _) (o := _) rfl) hH623 ?_
         refine d_v (i := 5) rfl (by kernel_rfl) rfl (r_box ty3 (k := 1) .here rfl rfl rfl (v := .int .i64 _) rfl) hH623 ?_
         obtain ⟨hc626, hM⟩ := chk_ok hM
         refine d_v (i := 6) rfl (by kernel_rfl) rfl (r_shl (a := _) (b := _) rfl rfl hc626) hH623 ?_
         refine d_v (i := 7) rfl (by kernel_rfl) rfl (r_or (a := _) (b := _) rfl rfl) hH623 ?_
         refine d_all (rs := [0]) (by kernel_rfl) (by simp) (fun j hj o ho => ?_)
         obtain rfl : j = 0 := by simpa using hj
         cases ho
         refine wl_h hS624.toHeld (r_box ty3 (k := 0) (.there .here) rfl rfl rfl (v := .int .i64 _) rfl) <| wl_nil ?_
         have hH627 := hS624.toHeld.mono (Mem.le_refl _) (List.Sublist.subset (.cons_cons _ (.cons _ (.cons_cons _ (.refl _)))))
         refine ⟨hH627, ?_⟩
         refine d_v (i := 8) rfl (by kernel_rfl) rfl (r_or (a := _) (b := _) rfl rfl) hH627 ?_
         refine d_all (rs := [9]) (by kernel_rfl) (by simp) (fun j hj o ho => ?_)
         obtain rfl : j = 9 := by simpa using hj
         cases ho
         refine wl_store_box ty3 hS624 rfl (v := .int .i64 _) rfl (vs := [.int .i64 _]) rfl rfl rfl (.there .here) (cs' := [.int .i64 _]) rfl rfl ?_
         intro w628 hS629
         refine wl_nil ?_
         have hH630 := hS629.toHeld.mono (Mem.le_refl _) (List.Sublist.subset (.cons_cons _ (.cons _ (.cons_cons _ (.refl _)))))
         refine ⟨hH630, ?_⟩
         refine d_end (by kernel_rfl) ?_
         refine c_nil <| q_norm <| c_region ?_
         obtain ⟨hc631, hM⟩ := chk_ok hM
         refine wl_h hS629.toHeld (r_add (a := _) (b := _) rfl rfl (ok_lo hc631) (ok_hi hc631)) <| wl_h hS629.toHeld (r_move (v := .int .i64 _) rfl) <| wl_nil <| c_nil <| q_loop ?_
         have hS632 := hS629.weaken (.cons _ (.cons_cons _ (.cons_cons _ (.refl _))))
         exact ⟨k_1, Nat.lt_succ_self _, x567 + 1, ior y568 (ior (ishl 1 x581.a) (ishl 1 x581.b)), hM, hS632, rfl, rfl, rfl, rfl, rfl, rfl, rfl⟩
        ·replace hM := bif_f h614 hM
         refine c_skip <| c_nil <| q_norm <| c_region ?_
         obtain ⟨hc633, hM⟩ := chk_ok hM
         refine wl_h hS592.toHeld (r_add (a := _) (b := _) rfl rfl (ok_lo hc633) (ok_hi hc633)) <| wl_h hS592.toHeld (r_move (v := .int .i64 _) rfl) <| wl_nil <| c_nil <| q_loop ?_
         have hS634 := hS592.weaken (.cons _ (.cons_cons _ (.cons_cons _ (.refl _))))
         exact ⟨k_1, Nat.lt_succ_self _, x567 + 1, y568, hM, hS634, rfl, rfl, rfl, rfl, rfl, rfl, rfl⟩
      ·replace hM := bif_f h580 hM
       refine c_exit <| q_loopx <| q_hit <| c_nil <| q_norm <| c_region ?_
       obtain ⟨hc635, hM⟩ := chk_ok hM
       refine wl_h hS572.toHeld (r_add (a := _) (b := _) rfl rfl (ok_lo hc635) (ok_hi hc635)) <| wl_h hS572.toHeld (r_move (v := .int .i64 _) rfl) <| wl_nil <| c_nil <| q_loop ?_
       exact ⟨k_0, Nat.lt_succ_self _, x447 + 1, y568, hM, hS572, rfl, rfl, rfl, rfl⟩
     ·replace hM := bif_f h457 hM
      refine c_exit <| q_loopx <| q_hit <| c_seq <| c_region <| wl_h hS452.toHeld (r_fieldAddr fld73_1 (b := _) (o := _) rfl) ?_
      refine wl_h hS452.toHeld (r_box ty71 (k := 1) (.there .here) rfl rfl rfl (v := .slice _ _ _) rfl) <| wl_h hS452.toHeld (r_makeFunc (vs := [.pointer (some ⟨_, _, none⟩)]) rfl) ?_
      obtain ⟨r636, hq637, hM⟩ := bnd_ok hM
      refine wl_call ent70 (vals := [.slice _ _ _, .func (.func 72) #[] #[.pointer (some ⟨_, _, none⟩)]]) rfl (cg70 hS452 hr7 (q6 := (fun x0 => mg72 fuel x0 y448)) (caps8 := [.pointer (some ⟨b39, 0, none⟩)]) ent72 (fun m' E w' cs0 x0 r hle hSt h0 hq => cg72 hSt h0 (Own.app .here) hq) hq637) ?_
      rintro _ w639 ⟨rfl, hS640⟩
      refine wl_nil <| c_cond (c := _) rfl (fun h641 => ?_) (fun h641 => ?_)
      ·replace hM := bif_t h641 hM
       refine c_seq <| c_region <| wl_h hS640.toHeld (r_assign (v := .int .i64 _) rfl) <| wl_nil <| c_ret <| ret_tmp (t := 2) rfl (v := .int .i64 _) rfl ?_
       obtain rfl := some_eq hM
       have hS642 := hS640.weaken (.cons _ (.cons _ (.refl _)))
       exact ⟨rfl, hS642⟩
      ·replace hM := bif_f h641 hM
       refine c_skip <| c_seq <| c_seq <| c_region <| wl_h hS640.toHeld (r_box ty73 (k := 0) (.there .here) rfl rfl rfl (v := .agg #[.int .i64 _, .slice _ _ _]) rfl) ?_
       obtain ⟨r643, hq644, hM⟩ := bnd_ok hM
       refine wl_call ent73 (vals := [.agg #[.int .i64 _, .slice _ _ _]]) rfl (cg73 hS640 hk8 hq644) ?_
       rintro _ w652 ⟨a646, n647, c648, cs649, rfl, rfl, hrc650, hS653⟩
       refine wl_h hS653.toHeld (r_len Try.underlying35 (a := _) (n := _) (c := _) rfl) <| wl_h hS653.toHeld (r_gtr (a := _) (b := _) rfl rfl) <| wl_nil <| c_cond (c := _) rfl (fun h654 => ?_) (fun h654 => ?_)
       ·replace hM := bif_t h654 hM
        refine c_seq <| c_region <| wl_h hS653.toHeld (r_assign (v := .int .i64 _) rfl) <| wl_nil <| c_ret <| ret_tmp (t := 2) rfl (v := .int .i64 _) rfl ?_
        obtain rfl := some_eq hM
        have hS655 := hS653.weaken (.cons _ (.cons _ (.cons _ (.refl _))))
        exact ⟨rfl, hS655⟩
       ·replace hM := bif_f h654 hM
        refine c_skip <| c_seq <| c_region <| wl_h hS653.toHeld (r_assign (v := .int .i64 _) rfl) <| wl_nil <| c_ret <| ret_tmp (t := 2) rfl (v := .int .i64 _) rfl ?_
        obtain rfl := some_eq hM
        have hS656 := hS653.weaken (.cons _ (.cons _ (.cons _ (.refl _))))
        exact ⟨rfl, hS656⟩
    ·replace hM := bif_f h28 hM
     refine c_skip <| c_seq <| c_seq <| c_region <| wl_h hS25.toHeld (r_box ty73 (k := 0) .here rfl rfl rfl (v := .agg #[.int .i64 _, .slice _ _ _]) rfl) ?_
     obtain ⟨r657, hq658, hM⟩ := bnd_ok hM
     refine wl_call ent73 (vals := [.agg #[.int .i64 _, .slice _ _ _]]) rfl (cg73 hS25 hk8 hq658) ?_
     rintro _ w666 ⟨a660, n661, c662, cs663, rfl, rfl, hrc664, hS667⟩
     refine wl_h hS667.toHeld (r_len Try.underlying35 (a := _) (n := _) (c := _) rfl) <| wl_h hS667.toHeld (r_gtr (a := _) (b := _) rfl rfl) <| wl_nil <| c_cond (c := _) rfl (fun h668 => ?_) (fun h668 => ?_)
     ·replace hM := bif_t h668 hM
      refine c_seq <| c_region <| wl_h hS667.toHeld (r_assign (v := .int .i64 _) rfl) <| wl_nil <| c_ret <| ret_tmp (t := 2) rfl (v := .int .i64 _) rfl ?_
      obtain rfl := some_eq hM
      have hS669 := hS667.weaken (.cons _ (.cons _ (.refl _)))
      exact ⟨rfl, hS669⟩
     ·replace hM := bif_f h668 hM
      refine c_skip <| c_seq <| c_region <| wl_h hS667.toHeld (r_assign (v := .int .i64 _) rfl) <| wl_nil <| c_ret <| ret_tmp (t := 2) rfl (v := .int .i64 _) rfl ?_
      obtain rfl := some_eq hM
      have hS670 := hS667.weaken (.cons _ (.cons _ (.refl _)))
      exact ⟨rfl, hS670⟩

theorem cg74 {m : Mem} {L : List Atom} {w : World} {cs1 : List Value} {s3 : Street} {b4 : Nat} {y6 : Int} (hS : St w m L) (hx2 : RStreet m cs1 s3) (hb5 : K.Own L (.box b4 3 [.int .i64 y6])) {fuel : Nat} {r : Bool} (hM : mg74 fuel s3 y6 = some r) : Calls P0 74 [.agg cs1.toArray, .pointer (some ⟨b4, 0, none⟩)].toArray w (Ret fun v w' => v = .bool r ∧ St w' m (L)) := by
 rw [mg74] at hM
 obtain rfl := hx2
 refine enter Try.func74 rfl Try.ntmps74 (Nat.le_of_ble_eq_true rfl) ?_
 refine c_seq <| c_region <| wl_box hS (v := .agg #[.int .i64 _, .int .i64 _, .int .i64 _]) rfl (cs := [.int .i64 _, .int .i64 _, .int .i64 _]) rfl ?_
 intro b7 w8 hS9
 refine wl_h hS9.toHeld (r_assign (v := .bool _) rfl) <| wl_nil <| c_seq <| c_region <| wl_h hS9.toHeld (r_fieldAddr fld106_0 (b := _) (o := _) rfl) ?_
 refine wl_h hS9.toHeld (r_box ty3 (k := 0) .here rfl rfl rfl (v := .int .i64 _) rfl) <| wl_h hS9.toHeld (r_box ty3 (k := 0) (.there hb5) rfl rfl rfl (v := .int .i64 _) rfl) <| wl_h hS9.toHeld (r_eql (a := _) (b := _) rfl rfl) <| wl_h hS9.toHeld (r_move (v := .bool _) rfl) <| wl_split rfl (c := _) (t := 8) (fun h10 => ?_) (fun h10 => ?_)
 ·replace hM := bif_t h10 hM
  refine wl_off (t := 8) (b := true) rfl rfl rfl ?_
  refine wl_off (t := 8) (b := true) rfl rfl rfl ?_
  refine wl_off (t := 8) (b := true) rfl rfl rfl ?_
  refine wl_off (t := 8) (b := true) rfl rfl rfl ?_
  refine wl_h hS9.toHeld (r_pick_t rfl (v := .bool _) rfl) <| wl_h hS9.toHeld (r_assign (v := .bool _) rfl) <| wl_nil <| c_ret <| ret_tmp (t := 3) rfl (v := .bool _) rfl ?_
  obtain rfl := some_eq hM
  have hS11 := hS9.weaken (.cons _ (.refl _))
  exact ⟨rfl, hS11⟩
 ·replace hM := bif_f h10 hM
  refine wl_on (t := 8) rfl rfl ?_
  refine wl_h hS9.toHeld (r_fieldAddr fld106_1 (b := _) (o := _) rfl) <| wl_on (t := 8) rfl rfl ?_
  refine wl_h hS9.toHeld (r_box ty3 (k := 1) .here rfl rfl rfl (v := .int .i64 _) rfl) <| wl_on (t := 8) rfl rfl ?_
  refine wl_h hS9.toHeld (r_box ty3 (k := 0) (.there hb5) rfl rfl rfl (v := .int .i64 _) rfl) <| wl_on (t := 8) rfl rfl ?_
  refine wl_h hS9.toHeld (r_eql (a := _) (b := _) rfl rfl) <| wl_h hS9.toHeld (r_pick_f rfl (v := .bool _) rfl) <| wl_h hS9.toHeld (r_assign (v := .bool _) rfl) <| wl_nil <| c_ret <| ret_tmp (t := 3) rfl (v := .bool _) rfl ?_
  obtain rfl := some_eq hM
  have hS12 := hS9.weaken (.cons _ (.refl _))
  exact ⟨rfl, hS12⟩

theorem cg53 {m : Mem} {L : List Atom} {w : World} {cs1 : List Value} {r3 : Round} {from9 : Int} (hS : St w m L) (hx2 : RRound m cs1 r3) {fuel : Nat} {r : Bool} (hM : mg53 fuel r3 from9 = some r) : Calls P0 53 [.agg cs1.toArray, .int .i64 from9].toArray w (Ret fun v w' => v = .bool r ∧ St w' m (L)) := by
 rw [mg53] at hM
 have hk8 := hx2
 obtain ⟨a4, n5, c6, rfl, hr7⟩ := hx2
 obtain rfl := hr7.1
 refine enter Try.func53 rfl Try.ntmps53 (Nat.le_of_ble_eq_true rfl) ?_
 refine c_seq <| c_region <| wl_box hS (v := .agg #[.int .i64 _, .slice _ _ _]) rfl (cs := [.int .i64 _, .slice _ _ _]) rfl ?_
 intro b10 w11 hS12
 refine wl_box hS12 (v := .int .i64 _) rfl (cs := [.int .i64 _]) rfl ?_
 intro b13 w14 hS15
 refine wl_h hS15.toHeld (r_assign (v := .bool _) rfl) <| wl_nil <| c_seq <| c_region <| wl_h hS15.toHeld (r_box ty3 (k := 0) .here rfl rfl rfl (v := .int .i64 _) rfl) ?_
 refine wl_h hS15.toHeld (r_fieldAddr fld73_0 (b := _) (o := _) rfl) <| wl_h hS15.toHeld (r_box ty3 (k := 0) (.there .here) rfl rfl rfl (v := .int .i64 _) rfl) ?_
 obtain ⟨hc16, hM⟩ := chk_ok hM
 refine wl_h hS15.toHeld (r_sub (a := _) (b := _) rfl rfl (ok_lo hc16) (ok_hi hc16)) ?_
 obtain ⟨r17, hq18, hM⟩ := bnd_ok hM
 refine wl_call ent33 (vals := [.int .i64 _, .int .i64 _, .int .i64 _]) rfl (cg33 hS15 hq18) ?_
 rintro _ w20 ⟨rfl, hS21⟩
 refine wl_h hS21.toHeld (r_move (v := .bool _) rfl) <| wl_split rfl (c := _) (t := 10) (fun h22 => ?_) (fun h22 => ?_)
 ·replace hM := bif_t h22 hM
  refine wl_on (t := 10) rfl rfl ?_
  refine wl_h hS21.toHeld (r_fieldAddr fld73_1 (b := _) (o := _) rfl) <| wl_on (t := 10) rfl rfl ?_
  refine wl_h hS21.toHeld (r_box ty71 (k := 1) (.there .here) rfl rfl rfl (v := .slice _ _ _) rfl) <| wl_on (t := 10) rfl rfl ?_
  refine wl_h hS21.toHeld (r_len Try.underlying71 (a := _) (n := _) (c := _) rfl) <| wl_on (t := 10) rfl rfl ?_
  refine wl_h hS21.toHeld (r_eql (a := _) (b := _) rfl rfl) <| wl_on (t := 10) rfl rfl ?_
  refine wl_h hS21.toHeld (r_move (v := .bool _) rfl) <| wl_split rfl (c := _) (t := 15) (fun h23 => ?_) (fun h23 => ?_)
  ·replace hM := bif_t h23 hM
   refine wl_off (t := 15) (b := true) rfl rfl rfl ?_
   refine wl_off (t := 15) (b := true) rfl rfl rfl ?_
   refine wl_off (t := 15) (b := true) rfl rfl rfl ?_
   refine wl_off (t := 15) (b := true) rfl rfl rfl ?_
   refine wl_on (t := 10) rfl rfl ?_
   refine wl_h hS21.toHeld (r_pick_t rfl (v := .bool _) rfl) <| wl_h hS21.toHeld (r_pick_t rfl (v := .bool _) rfl) <| wl_h hS21.toHeld (r_assign (v := .bool _) rfl) <| wl_nil <| c_ret <| ret_tmp (t := 4) rfl (v := .bool _) rfl ?_
   obtain rfl := some_eq hM
   have hS24 := hS21.weaken (.cons _ (.cons _ (.refl _)))
   exact ⟨rfl, hS24⟩
  ·replace hM := bif_f h23 hM
   refine wl_on (t := 15) rfl rfl ?_
   refine wl_h hS21.toHeld (r_fieldAddr fld73_1 (b := _) (o := _) rfl) <| wl_on (t := 15) rfl rfl ?_
   refine wl_h hS21.toHeld (r_box ty71 (k := 1) (.there .here) rfl rfl rfl (v := .slice _ _ _) rfl) <| wl_on (t := 15) rfl rfl ?_
   refine wl_h hS21.toHeld (r_makeFunc (vs := [.pointer (some ⟨_, _, none⟩)]) rfl) <| wl_on (t := 15) rfl rfl ?_
   obtain ⟨r25, hq26, hM⟩ := bnd_ok hM
   refine wl_call ent70 (vals := [.slice _ _ _, .func (.func 74) #[] #[.pointer (some ⟨_, _, none⟩)]]) rfl (cg70 hS21 hr7 (q6 := (fun x0 => mg74 fuel x0 from9)) (caps8 := [.pointer (some ⟨b13, 0, none⟩)]) ent74 (fun m' E w' cs0 x0 r hle hSt h0 hq => cg74 hSt h0 (Own.app .here) hq) hq26) ?_
   rintro _ w28 ⟨rfl, hS29⟩
   refine wl_on (t := 10) rfl rfl ?_
   refine wl_h hS29.toHeld (r_pick_f rfl (v := .bool _) rfl) <| wl_h hS29.toHeld (r_pick_t rfl (v := .bool _) rfl) <| wl_h hS29.toHeld (r_assign (v := .bool _) rfl) <| wl_nil <| c_ret <| ret_tmp (t := 4) rfl (v := .bool _) rfl ?_
   obtain rfl := some_eq hM
   have hS30 := hS29.weaken (.cons _ (.cons _ (.refl _)))
   exact ⟨rfl, hS30⟩
 ·replace hM := bif_f h22 hM
  refine wl_off (t := 10) (b := false) rfl rfl rfl ?_
  refine wl_off (t := 10) (b := false) rfl rfl rfl ?_
  refine wl_off (t := 10) (b := false) rfl rfl rfl ?_
  refine wl_off (t := 10) (b := false) rfl rfl rfl ?_
  refine wl_off (t := 10) (b := false) rfl rfl rfl ?_
  refine wl_none (t := 15) rfl rfl ?_
  refine wl_none (t := 15) rfl rfl ?_
  refine wl_none (t := 15) rfl rfl ?_
  refine wl_none (t := 15) rfl rfl ?_
  refine wl_off (t := 10) (b := false) rfl rfl rfl ?_
  refine wl_h hS21.toHeld (r_pick_f rfl (v := .bool _) rfl) <| wl_h hS21.toHeld (r_assign (v := .bool _) rfl) <| wl_nil <| c_ret <| ret_tmp (t := 4) rfl (v := .bool _) rfl ?_
  obtain rfl := some_eq hM
  have hS31 := hS21.weaken (.cons _ (.cons _ (.refl _)))
  exact ⟨rfl, hS31⟩

theorem cg75 {m : Mem} {L : List Atom} {w : World} {cs1 : List Value} {r3 : Round} {from9 : Int} (hS : St w m L) (hx2 : RRound m cs1 r3) {fuel : Nat} {r : (List WayR)} (hM : mg75 fuel r3 from9 = some r) : Calls P0 75 [.agg cs1.toArray, .int .i64 from9].toArray w (Ret fun v w' => ∃ (m' : Mem) (a0 : Option Addr) (n0 : Nat) (c0 : Nat) (cs0 : List Value), v = .slice a0 n0 c0 ∧ m ≤ m' ∧ n0 = r.length ∧ RCs 2 RWayR m' cs0 r ∧ St w' m' (.row (.slice a0 n0 c0) 133 2 cs0 :: L)) := by
 rw [mg75] at hM
 have hk8 := hx2
 obtain ⟨a4, n5, c6, rfl, hr7⟩ := hx2
 obtain rfl := hr7.1
 refine enter Try.func75 rfl Try.ntmps75 (Nat.le_of_ble_eq_true rfl) ?_
 refine c_seq <| c_region <| wl_box hS (v := .agg #[.int .i64 _, .slice _ _ _]) rfl (cs := [.int .i64 _, .slice _ _ _]) rfl ?_
 intro b10 w11 hS12
 refine wl_h hS12.toHeld (r_assign (v := .slice _ _ _) rfl) <| wl_nil <| c_seq <| c_region <| wl_h hS12.toHeld (r_fieldAddr fld73_0 (b := _) (o := _) rfl) ?_
 refine wl_h hS12.toHeld (r_box ty3 (k := 0) .here rfl rfl rfl (v := .int .i64 _) rfl) ?_
 obtain ⟨hc15, hM⟩ := chk_ok hM
 refine wl_makeSlice Try.underlying129 ty133 rfl (by decide) hS12 (l := _) (c := _) rfl rfl (mk_0 hc15) (mk_1 hc15) (mk_2 hc15 (by decide)) (mk_3 hc15) ?_
 intro b13 w14 hS16
 have hrc18 : RCs 2 RWayR m (reps [.int .i64 0, .slice none 0 0] r3.corners.toNat) ((List.replicate r3.corners.toNat (⟨0, none⟩ : WayR) : List WayR) : List WayR) := RCs.reps rfl ⟨_, _, _, rfl, ROp.nil⟩ _
 refine wl_h hS16.toHeld (r_assign (v := .slice _ _ _) rfl) <| wl_nil <| c_seq <| c_region <| wl_h hS16.toHeld (r_move (v := .slice _ _ _) rfl) ?_
 refine wl_h hS16.toHeld (r_move (v := .int .i64 _) rfl) <| wl_h hS16.toHeld (r_fieldAddr fld73_1 (b := _) (o := _) rfl) <| wl_h hS16.toHeld (r_box ty71 (k := 1) (.there .here) rfl rfl rfl (v := .slice _ _ _) rfl) <| wl_h hS16.toHeld (r_len Try.underlying71 (a := _) (n := _) (c := _) rfl) ?_
 obtain ⟨hc21, hM⟩ := chk_ok hM
 refine wl_makeSlice Try.underlying35 ty3 rfl (by decide) hS16 (l := _) (c := _) rfl rfl (mk_0 hc21) (mk_1 hc21) (mk_2 hc21 (by decide)) (mk_3 hc21) ?_
 intro b19 w20 hS22
 have hrc24 : RCs 1 RInt m (reps [.int .i64 0] ((r3.streets.length : Nat) : Int).toNat) ((List.replicate ((r3.streets.length : Nat) : Int).toNat 0 : List Int) : List Int) := RCs.reps rfl rfl _
 obtain ⟨x25, hx26, h27, h28, hM⟩ := getK_ok hM
 obtain ⟨es29, hes30, hR31⟩ := row_read hrc18 hx26
 have hk36 := hR31
 obtain ⟨a32, n33, c34, rfl, hr35⟩ := hR31
 obtain rfl := (ROp.rsl hr35).1
 refine wl_h hS22.toHeld (r_indexAddr Try.underlying129 ty133 (b := _) (o := _) (n := _) (c := _) (i := from9) rfl rfl h27 (row_lt (hS22.toHeld.own (.there .here)) hrc18 (by decide) h28)) <| wl_h hS22.toHeld (r_fieldAddr fld133_1 (b := _) (o := _) rfl) ?_
 obtain ⟨m37, hm38, hS39, hr40⟩ := hS22.freezeR .here hrc24 RInt.mono (by decide)
 have le42 := hm38
 replace hk8 := RRound.mono _ _ _ _ hk8 hm38
 replace hr7 := RSl.mono RStreet.mono hr7 hm38
 replace hrc18 := RCs.mono RWayR.mono hrc18 hm38
 replace hrc24 := RCs.mono RInt.mono hrc24 hm38
 replace hk36 := RWayR.mono _ _ _ _ hk36 hm38
 replace hr35 := ROp.mono RInt.mono hr35 hm38
 obtain ⟨hc44, hM⟩ := chk_ok hM
 have ho45 := ROp.some hr40 hc44
 refine wl_store_row ty35 hS39 rfl (v := .slice _ _ _) rfl (vs := [.slice _ _ _]) rfl rfl rfl .here (Nat.le_trans (by simp only [Nat.zero_add]; omega) (row_room hrc18 hx26)) ?_
 intro w43 hS46
 have hrc47 := RCs.setp hrc18 hx26 (k := 1) (vs := [.slice (some ⟨b19, 0, none⟩) (((r3.streets.length : Nat) : Int).toNat) (((r3.streets.length : Nat) : Int).toNat)]) hes30 (Nat.le_of_ble_eq_true rfl) rfl (y := (⟨x25.length, (some ((List.replicate ((r3.streets.length : Nat) : Int).toNat 0 : List Int) : List Int))⟩ : WayR)) ⟨_, _, _, rfl, ho45⟩
 generalize spl (reps [.int .i64 0, .slice none 0 0] r3.corners.toNat) (0 + from9.toNat * 2 + 1) [.slice (some ⟨b19, 0, none⟩) (((r3.streets.length : Nat) : Int).toNat) (((r3.streets.length : Nat) : Int).toNat)] = cs48 at hS46 hrc47
 refine wl_nil <| c_seq <| c_seq <| c_region <| wl_h hS46.toHeld (r_fieldAddr fld73_0 (b := _) (o := _) rfl) ?_
 refine wl_h hS46.toHeld (r_box ty3 (k := 0) (.there .here) rfl rfl rfl (v := .int .i64 _) rfl) <| wl_h hS46.toHeld (r_move (v := .int .i64 _) rfl) <| wl_nil <| c_block <| c_loop (fun k f w => ∃ (x12939 : Int) (l12940 : List WayR) (m12935 : Mem) (a12941 : Option Addr) (n12942 : Nat) (c12943 : Nat) (cs12944 : List Value), mg75_l0 fuel r3 k x12939 l12940 = some r ∧ m37 ≤ m12935 ∧ n12942 = l12940.length ∧ RCs 2 RWayR m12935 cs12944 l12940 ∧ St w m12935 (.row (.slice a12941 n12942 c12943) 133 2 cs12944 :: .box b10 73 [.int .i64 r3.corners, .slice a4 r3.streets.length c6] :: L) ∧ f 2 = .pointer (some ⟨b10, 0, none⟩) ∧ f 5 = .slice a12941 n12942 c12943 ∧ f 25 = .int .i64 r3.corners ∧ f 26 = .int .i64 x12939) fuel ⟨0, ((List.replicate r3.corners.toNat (⟨0, none⟩ : WayR) : List WayR).set from9.toNat (⟨x25.length, (some ((List.replicate ((r3.streets.length : Nat) : Int).toNat 0 : List Int) : List Int))⟩ : WayR)), m37, (some ⟨b13, 0, none⟩), r3.corners.toNat, r3.corners.toNat, cs48, hM, Mem.le_refl _, row_n (hS46.toHeld.own .here) hrc47 (by decide), hrc47, hS46, rfl, rfl, rfl, rfl⟩ ?_
 rintro k_0 f12947 w12948 ⟨x12939, l12940, m12935, a12941, n12942, c12943, cs12944, hM, hm12936, hn12945, hrc12946, hS12950, e12951, e12952, e12953, e12954⟩
 replace hk8 := RRound.mono _ _ _ _ hk8 hm12936
 replace hr7 := RSl.mono RStreet.mono hr7 hm12936
 replace hrc18 := RCs.mono RWayR.mono hrc18 hm12936
 replace hrc24 := RCs.mono RInt.mono hrc24 hm12936
 replace hk36 := RWayR.mono _ _ _ _ hk36 hm12936
 replace hr35 := ROp.mono RInt.mono hr35 hm12936
 replace hr40 := RSl.mono RInt.mono hr40 hm12936
 replace ho45 := ROp.mono RInt.mono ho45 hm12936
 replace hrc47 := RCs.mono RWayR.mono hrc47 hm12936
 have le12937 := Mem.le_trans le42 hm12936
 have le12938 := hm12936
 subst hn12945
 refine c_know (t := 2) e12951 <| c_know (t := 5) e12952 <| c_know (t := 25) e12953 <| c_know (t := 26) e12954 ?_
 clear e12951 e12952 e12953 e12954
 rcases k_0 with _ | k_0
 · exact none_ne hM
 rw [mg75_l0] at hM
 refine c_seq <| c_region <| wl_h hS12950.toHeld (r_lss (a := _) (b := _) rfl rfl) <| wl_nil <| c_seq <| c_cond (c := _) rfl (fun h12955 => ?_) (fun h12955 => ?_)
 ·replace hM := bif_t h12955 hM
  refine c_skip <| c_seq <| c_block <| c_seq <| c_region <| wl_h hS12950.toHeld (r_fieldAddr fld73_1 (b := _) (o := _) rfl) ?_
  refine wl_h hS12950.toHeld (r_box ty71 (k := 1) (.there .here) rfl rfl rfl (v := .slice _ _ _) rfl) <| wl_h hS12950.toHeld (r_len Try.underlying71 (a := _) (n := _) (c := _) rfl) <| wl_h hS12950.toHeld (r_move (v := .int .i64 _) rfl) <| wl_nil <| c_block <| c_loop (fun k f w => ∃ (x17393 : Int) (l17394 : List WayR) (m17388 : Mem) (a17395 : Option Addr) (n17396 : Nat) (c17397 : Nat) (cs17398 : List Value), mg75_l1 fuel r3 x12939 (mg75_l0 fuel r3 k_0) k x17393 l17394 = some r ∧ m12935 ≤ m17388 ∧ n17396 = l17394.length ∧ RCs 2 RWayR m17388 cs17398 l17394 ∧ St w m17388 (.row (.slice a17395 n17396 c17397) 133 2 cs17398 :: .box b10 73 [.int .i64 r3.corners, .slice a4 r3.streets.length c6] :: L) ∧ f 2 = .pointer (some ⟨b10, 0, none⟩) ∧ f 5 = .slice a17395 n17396 c17397 ∧ f 25 = .int .i64 r3.corners ∧ f 26 = .int .i64 x12939 ∧ f 29 = .slice a4 r3.streets.length c6 ∧ f 30 = .int .i64 ((r3.streets.length : Nat) : Int) ∧ f 31 = .int .i64 x17393) fuel ⟨0, l12940, m12935, a12941, l12940.length, c12943, cs12944, hM, Mem.le_refl _, row_n (hS12950.toHeld.own .here) hrc12946 (by decide), hrc12946, hS12950, rfl, rfl, rfl, rfl, rfl, rfl, rfl⟩ ?_
  rintro k_1 f17401 w17402 ⟨x17393, l17394, m17388, a17395, n17396, c17397, cs17398, hM, hm17389, hn17399, hrc17400, hS17404, e17405, e17406, e17407, e17408, e17409, e17410, e17411⟩
  replace hk8 := RRound.mono _ _ _ _ hk8 hm17389
  replace hr7 := RSl.mono RStreet.mono hr7 hm17389
  replace hrc18 := RCs.mono RWayR.mono hrc18 hm17389
  replace hrc24 := RCs.mono RInt.mono hrc24 hm17389
  replace hk36 := RWayR.mono _ _ _ _ hk36 hm17389
  replace hr35 := ROp.mono RInt.mono hr35 hm17389
  replace hr40 := RSl.mono RInt.mono hr40 hm17389
  replace ho45 := ROp.mono RInt.mono ho45 hm17389
  replace hrc47 := RCs.mono RWayR.mono hrc47 hm17389
  replace hrc12946 := RCs.mono RWayR.mono hrc12946 hm17389
  have le17390 := Mem.le_trans le12937 hm17389
  have le17391 := Mem.le_trans le12938 hm17389
  have le17392 := hm17389
  subst hn17399
  refine c_know (t := 2) e17405 <| c_know (t := 5) e17406 <| c_know (t := 25) e17407 <| c_know (t := 26) e17408 <| c_know (t := 29) e17409 ?_
  refine c_know (t := 30) e17410 <| c_know (t := 31) e17411 ?_
  clear e17405 e17406 e17407 e17408 e17409 e17410 e17411
  rcases k_1 with _ | k_1
  · exact none_ne hM
  rw [mg75_l1] at hM
  refine c_seq <| c_region <| wl_h hS17404.toHeld (r_lss (a := _) (b := _) rfl rfl) <| wl_nil <| c_seq <| c_cond (c := _) rfl (fun h17412 => ?_) (fun h17412 => ?_)
  ·replace hM := bif_t h17412 hM
   refine c_skip <| c_seq <| c_block <| c_seq <| c_region <| wl_h hS17404.toHeld (r_move (v := .int .i64 _) rfl) ?_
   obtain ⟨x17413, hx17414, h17415, h17416, hM⟩ := getK_ok hM
   obtain ⟨b17417, o17418, rfl⟩ := RSl.elem_a hr7 hx17414
   obtain ⟨cs17419, hI17420, hR17421⟩ := RSl.elem_at hr7 hx17414
   obtain rfl := hR17421
   refine wl_h hS17404.toHeld (r_indexAddr Try.underlying71 ty106 (b := _) (o := _) (n := _) (c := _) (i := x17393) rfl rfl h17415 (RSl.lt hr7 h17416)) <| wl_h hS17404.toHeld (r_imm ty106 (k := 0) hI17420 rfl rfl rfl (v := .agg #[.int .i64 _, .int .i64 _, .int .i64 _]) rfl) <| wl_alloc ty106 rfl hS17404 ?_
   intro b17422 w17423 hS17424
   refine wl_h hS17424.toHeld (r_assign (v := .int .i64 _) rfl) <| wl_store_box ty106 hS17424 rfl (v := .agg #[.int .i64 _, .int .i64 _, .int .i64 _]) rfl (vs := [.int .i64 _, .int .i64 _, .int .i64 _]) rfl rfl rfl .here (cs' := [.int .i64 _, .int .i64 _, .int .i64 _]) rfl rfl ?_
   intro w17425 hS17426
   refine wl_nil <| c_seq <| c_region <| wl_h hS17426.toHeld (r_fieldAddr fld106_0 (b := _) (o := _) rfl) <| wl_h hS17426.toHeld (r_box ty3 (k := 0) .here rfl rfl rfl (v := .int .i64 _) rfl) ?_
   refine wl_h hS17426.toHeld (r_fieldAddr fld106_1 (b := _) (o := _) rfl) <| wl_h hS17426.toHeld (r_box ty3 (k := 1) .here rfl rfl rfl (v := .int .i64 _) rfl) <| wl_h hS17426.toHeld (r_buildA Try.underlying149 ty149 ty3 (ps := [(0, [.int .i64 _]), (1, [.int .i64 _])]) rfl rfl (cs := [.int .i64 _, .int .i64 _]) rfl) <| wl_h hS17426.toHeld (r_fieldAddr fld106_1 (b := _) (o := _) rfl) <| wl_h hS17426.toHeld (r_box ty3 (k := 1) .here rfl rfl rfl (v := .int .i64 _) rfl) ?_
   refine wl_h hS17426.toHeld (r_fieldAddr fld106_0 (b := _) (o := _) rfl) <| wl_h hS17426.toHeld (r_box ty3 (k := 0) .here rfl rfl rfl (v := .int .i64 _) rfl) <| wl_h hS17426.toHeld (r_buildA Try.underlying149 ty149 ty3 (ps := [(0, [.int .i64 _]), (1, [.int .i64 _])]) rfl rfl (cs := [.int .i64 _, .int .i64 _]) rfl) <| wl_h hS17426.toHeld (r_buildA Try.underlying150 ty150 ty149 (ps := [(0, [.int .i64 _, .int .i64 _]), (1, [.int .i64 _, .int .i64 _])]) rfl rfl (cs := [.int .i64 _, .int .i64 _, .int .i64 _, .int .i64 _]) rfl) <| wl_h hS17426.toHeld (r_move (v := .int .i64 _) rfl) ?_
   refine wl_nil <| c_block <| c_loop (fun k f w => ∃ (x18882 : Int) (l18883 : List WayR) (m18876 : Mem) (a18884 : Option Addr) (n18885 : Nat) (c18886 : Nat) (cs18887 : List Value), mg75_l2 fuel x17393 x17413 (mg75_l1 fuel r3 x12939 (mg75_l0 fuel r3 k_0) k_1) k x18882 l18883 = some r ∧ m17388 ≤ m18876 ∧ n18885 = l18883.length ∧ RCs 2 RWayR m18876 cs18887 l18883 ∧ St w m18876 (.box b17422 106 [.int .i64 x17413.a, .int .i64 x17413.b, .int .i64 x17413.length] :: .row (.slice a18884 n18885 c18886) 133 2 cs18887 :: .box b10 73 [.int .i64 r3.corners, .slice (some ⟨b17417, o17418, none⟩) r3.streets.length c6] :: L) ∧ f 2 = .pointer (some ⟨b10, 0, none⟩) ∧ f 5 = .slice a18884 n18885 c18886 ∧ f 6 = .int .i64 x17393 ∧ f 7 = .pointer (some ⟨b17422, 0, none⟩) ∧ f 25 = .int .i64 r3.corners ∧ f 26 = .int .i64 x12939 ∧ f 29 = .slice (some ⟨b17417, o17418, none⟩) r3.streets.length c6 ∧ f 30 = .int .i64 ((r3.streets.length : Nat) : Int) ∧ f 31 = .int .i64 x17393 ∧ f 46 = .agg #[.int .i64 x17413.a, .int .i64 x17413.b, .int .i64 x17413.b, .int .i64 x17413.a] ∧ f 47 = .int .i64 x18882) fuel ⟨0, l17394, m17388, a17395, l17394.length, c17397, cs17398, hM, Mem.le_refl _, row_n (hS17426.toHeld.own (.there .here)) hrc17400 (by decide), hrc17400, hS17426, rfl, rfl, rfl, rfl, rfl, rfl, rfl, rfl, rfl, rfl, rfl⟩ ?_
   rintro k_2 f18890 w18891 ⟨x18882, l18883, m18876, a18884, n18885, c18886, cs18887, hM, hm18877, hn18888, hrc18889, hS18893, e18894, e18895, e18896, e18897, e18898, e18899, e18900, e18901, e18902, e18903, e18904⟩
   replace hk8 := RRound.mono _ _ _ _ hk8 hm18877
   replace hr7 := RSl.mono RStreet.mono hr7 hm18877
   replace hrc18 := RCs.mono RWayR.mono hrc18 hm18877
   replace hrc24 := RCs.mono RInt.mono hrc24 hm18877
   replace hk36 := RWayR.mono _ _ _ _ hk36 hm18877
   replace hr35 := ROp.mono RInt.mono hr35 hm18877
   replace hr40 := RSl.mono RInt.mono hr40 hm18877
   replace ho45 := ROp.mono RInt.mono ho45 hm18877
   replace hrc47 := RCs.mono RWayR.mono hrc47 hm18877
   replace hrc12946 := RCs.mono RWayR.mono hrc12946 hm18877
   replace hrc17400 := RCs.mono RWayR.mono hrc17400 hm18877
   replace hI17420 := Imm.mono hI17420 hm18877
   have le18878 := Mem.le_trans le17390 hm18877
   have le18879 := Mem.le_trans le17391 hm18877
   have le18880 := Mem.le_trans le17392 hm18877
   have le18881 := hm18877
   subst hn18888
   refine c_know (t := 2) e18894 <| c_know (t := 5) e18895 <| c_know (t := 6) e18896 <| c_know (t := 7) e18897 <| c_know (t := 25) e18898 ?_
   refine c_know (t := 26) e18899 <| c_know (t := 29) e18900 <| c_know (t := 30) e18901 <| c_know (t := 31) e18902 <| c_know (t := 46) e18903 ?_
   refine c_know (t := 47) e18904 ?_
   clear e18894 e18895 e18896 e18897 e18898 e18899 e18900 e18901 e18902 e18903 e18904
   rcases k_2 with _ | k_2
   · exact none_ne hM
   rw [mg75_l2] at hM
   refine c_seq <| c_region <| wl_h hS18893.toHeld (r_lss (a := _) (b := _) rfl rfl) <| wl_nil <| c_seq <| c_cond (c := _) rfl (fun h18905 => ?_) (fun h18905 => ?_)
   ·replace hM := bif_t h18905 hM
    refine c_skip <| c_seq <| c_block <| c_seq <| c_region ?_
    obtain ⟨x18906, hx18907, h18908, h18909, hM⟩ := getK_ok hM
    obtain ⟨y18910, hy18911, h18912, h18913, hM⟩ := getK_ok hM
    obtain ⟨y18914, hy18915, h18916, h18917, hM⟩ := getK_ok hM
    refine wl_h hS18893.toHeld (r_indexAI Try.underlying150 ty149 (n := 2) (xss := [[x17413.a, x17413.b], [x17413.b, x17413.a]]) (i := x18882) (cs := [.int .i64 _, .int .i64 _, .int .i64 _, .int .i64 _]) rfl rfl h18908 h18909 rfl (y := x18906) hx18907 rfl rfl (ys := [y18910, y18914]) (get2 hy18911 hy18915) rfl) <| wl_alloc ty149 rfl hS18893 ?_
    intro b18918 w18919 hS18920
    refine wl_store_box ty149 hS18920 rfl (v := .agg #[.int .i64 _, .int .i64 _]) rfl (vs := [.int .i64 _, .int .i64 _]) rfl rfl rfl .here (cs' := [.int .i64 _, .int .i64 _]) rfl rfl ?_
    intro w18921 hS18922
    refine wl_nil <| c_seq ?_
    obtain ⟨x18966, hx18967, h18968, h18969, hM⟩ := getK_ok hM
    obtain ⟨x18979, hx18980, h18981, h18982, hM⟩ := getK_ok hM
    have hH19017 := (hS18922.weaken (.cons_cons _ (.cons_cons _ (.cons _ (.cons_cons _ (.refl _)))))).toHeld
    refine c_drawJ (k := 14) (fun f w => ∃ (a19007 : Option Addr) (n19008 : Nat) (c19009 : Nat) (b19011 : Nat) (a19012 : Option Addr) (n19013 : Nat) (c19014 : Nat) (b19016 : Nat), ROp 1 RInt m18876 a19007 n19008 c19009 x18979.along ∧ ROp 1 RInt m18876 a19012 n19013 c19014 x18966.along ∧ St w m18876 (.box b19011 133 [.int .i64 x18979.length, .slice a19007 n19008 c19009] :: .box b19016 133 [.int .i64 x18966.length, .slice a19012 n19013 c19014] :: .box b18918 149 [.int .i64 y18910, .int .i64 y18914] :: .box b17422 106 [.int .i64 x17413.a, .int .i64 x17413.b, .int .i64 x17413.length] :: .row (.slice a18884 l18883.length c18886) 133 2 cs18887 :: .box b10 73 [.int .i64 r3.corners, .slice (some ⟨b17417, o17418, none⟩) r3.streets.length c6] :: L) ∧ f 2 = .pointer (some ⟨b10, 0, none⟩) ∧ f 5 = .slice a18884 l18883.length c18886 ∧ f 6 = .int .i64 x17393 ∧ f 7 = .pointer (some ⟨b17422, 0, none⟩) ∧ f 9 = .pointer (some ⟨b18918, 0, none⟩) ∧ f 10 = .pointer (some ⟨b19016, 0, none⟩) ∧ f 11 = .pointer (some ⟨b19011, 0, none⟩) ∧ f 25 = .int .i64 r3.corners ∧ f 26 = .int .i64 x12939 ∧ f 29 = .slice (some ⟨b17417, o17418, none⟩) r3.streets.length c6 ∧ f 30 = .int .i64 ((r3.streets.length : Nat) : Int) ∧ f 31 = .int .i64 x17393 ∧ f 46 = .agg #[.int .i64 x17413.a, .int .i64 x17413.b, .int .i64 x17413.b, .int .i64 x17413.a] ∧ f 47 = .int .i64 x18882) (fun w => Held w m18876 (.box b18918 149 [.int .i64 y18910, .int .i64 y18914] :: .box b17422 106 [.int .i64 x17413.a, .int .i64 x17413.b, .int .i64 x17413.length] :: .box b10 73 [.int .i64 r3.corners, .slice (some ⟨b17417, o17418, none⟩) r3.streets.length c6] :: L)) mixed rfl ?_ ?_
    ·replace hH19017 := hH19017.drew1
     have hS19018 := hS18922.drew1
     refine d_v (i := 0) rfl (by kernel_rfl) rfl (r_move (v := .slice _ _ _) rfl) hH19017 ?_
     refine d_v (i := 1) rfl (by kernel_rfl) rfl (r_indexAddr_arr Try.underlying149 ty3 (n := 2) (b := _) (o := _) (i := 0) rfl rfl (by decide) (by decide)) hH19017 ?_
     refine d_v (i := 2) rfl (by kernel_rfl) rfl (r_box ty3 (k := 0) .here rfl rfl rfl (v := .int .i64 _) rfl) hH19017 ?_
     obtain ⟨b19019, rfl⟩ := row_some (hS19018.toHeld.own (.there (.there .here))) hrc18889 (by decide) h18968 h18969
     obtain ⟨es19020, hes19021, hR19022⟩ := row_read hrc18889 hx18967
     have hk19027 := hR19022
     obtain ⟨a19023, n19024, c19025, rfl, hr19026⟩ := hR19022
     obtain rfl := (ROp.rsl hr19026).1
     refine d_v (i := 3) rfl (by kernel_rfl) rfl (r_indexAddr Try.underlying129 ty133 (b := _) (o := _) (n := _) (c := _) (i := y18910) rfl rfl h18968 (row_lt (hS19018.toHeld.own (.there (.there .here))) hrc18889 (by decide) h18969)) hH19017 ?_
     refine d_v (i := 5) rfl (by kernel_rfl) rfl (r_move (v := .slice _ _ _) rfl) hH19017 ?_
     refine d_v (i := 6) rfl (by kernel_rfl) rfl (r_indexAddr_arr Try.underlying149 ty3 (n := 2) (b := _) (o := _) (i := 1) rfl rfl (by decide) (by decide)) hH19017 ?_
     refine d_v (i := 7) rfl (by kernel_rfl) rfl (r_box ty3 (k := 1) .here rfl rfl rfl (v := .int .i64 _) rfl) hH19017 ?_
     obtain ⟨es19028, hes19029, hR19030⟩ := row_read hrc18889 hx18980
     have hk19035 := hR19030
     obtain ⟨a19031, n19032, c19033, rfl, hr19034⟩ := hR19030
     obtain rfl := (ROp.rsl hr19034).1
     refine d_v (i := 8) rfl (by kernel_rfl) rfl (r_indexAddr Try.underlying129 ty133 (b := _) (o := _) (n := _) (c := _) (i := y18914) rfl rfl h18981 (row_lt (hS19018.toHeld.own (.there (.there .here))) hrc18889 (by decide) h18982)) hH19017 ?_
     refine d_all (rs := [4, 9, 10, 11]) (by kernel_rfl) (by simp) (fun j hj o ho => ?_)
     simp only [List.mem_cons, List.not_mem_nil, or_false] at hj
     rcases hj with rfl | rfl | rfl | rfl
     ·cases ho
      refine wl_h hS19018.toHeld (r_row ty133 (k := 0) (i := y18910.toNat) (.there (.there .here)) rfl rfl (row_room hrc18889 hx18967) hes19021 rfl (v := .agg #[.int .i64 _, .slice _ _ _]) rfl) <| wl_nil ?_
      have hH19036 := hS19018.toHeld.mono (Mem.le_refl _) (List.Sublist.subset (.cons_cons _ (.cons_cons _ (.cons _ (.cons_cons _ (.refl _))))))
      refine ⟨hH19036, ?_⟩
      refine d_all (rs := [9, 10, 11]) (by kernel_rfl) (by simp) (fun j hj o ho => ?_)
      simp only [List.mem_cons, List.not_mem_nil, or_false] at hj
      rcases hj with rfl | rfl | rfl
      ·cases ho
       refine wl_h hS19018.toHeld (r_row ty133 (k := 0) (i := y18914.toNat) (.there (.there .here)) rfl rfl (row_room hrc18889 hx18980) hes19029 rfl (v := .agg #[.int .i64 _, .slice _ _ _]) rfl) <| wl_nil ?_
       have hH19037 := hS19018.toHeld.mono (Mem.le_refl _) (List.Sublist.subset (.cons_cons _ (.cons_cons _ (.cons _ (.cons_cons _ (.refl _))))))
       refine ⟨hH19037, ?_⟩
       refine d_all (rs := [10, 11]) (by kernel_rfl) (by simp) (fun j hj o ho => ?_)
       simp only [List.mem_cons, List.not_mem_nil, or_false] at hj
       rcases hj with rfl | rfl
       ·cases ho
        refine wl_alloc ty133 rfl hS19018 ?_
        intro b19038 w19039 hS19040
        refine wl_nil ?_
        have hH19041 := hS19040.toHeld.mono (Mem.le_refl _) (List.Sublist.subset (.cons _ (.cons_cons _ (.cons_cons _ (.cons _ (.cons_cons _ (.refl _)))))))
        refine ⟨hH19041, ?_⟩
        refine d_all (rs := [11]) (by kernel_rfl) (by simp) (fun j hj o ho => ?_)
        obtain rfl : j = 11 := by simpa using hj
        cases ho
        refine wl_alloc ty133 rfl hS19040 ?_
        intro b19042 w19043 hS19044
        refine wl_nil ?_
        have hH19045 := hS19044.toHeld.mono (Mem.le_refl _) (List.Sublist.subset (.cons _ (.cons _ (.cons_cons _ (.cons_cons _ (.cons _ (.cons_cons _ (.refl _))))))))
        refine ⟨hH19045, ?_⟩
        refine d_all (rs := [12]) (by kernel_rfl) (by simp) (fun j hj o ho => ?_)
        obtain rfl : j = 12 := by simpa using hj
        cases ho
        refine wl_store_box ty133 hS19044 rfl (v := .agg #[.int .i64 _, .slice _ _ _]) rfl (vs := [.int .i64 _, .slice _ _ _]) rfl rfl rfl (.there .here) (cs' := [.int .i64 _, .slice _ _ _]) rfl rfl ?_
        intro w19046 hS19047
        refine wl_nil ?_
        have hH19048 := hS19047.toHeld.mono (Mem.le_refl _) (List.Sublist.subset (.cons _ (.cons _ (.cons_cons _ (.cons_cons _ (.cons _ (.cons_cons _ (.refl _))))))))
        refine ⟨hH19048, ?_⟩
        refine d_all (rs := [13]) (by kernel_rfl) (by simp) (fun j hj o ho => ?_)
        obtain rfl : j = 13 := by simpa using hj
        cases ho
        refine wl_store_box ty133 hS19047 rfl (v := .agg #[.int .i64 _, .slice _ _ _]) rfl (vs := [.int .i64 _, .slice _ _ _]) rfl rfl rfl .here (cs' := [.int .i64 _, .slice _ _ _]) rfl rfl ?_
        intro w19049 hS19050
        refine wl_nil ?_
        have hH19051 := hS19050.toHeld.mono (Mem.le_refl _) (List.Sublist.subset (.cons _ (.cons _ (.cons_cons _ (.cons_cons _ (.cons _ (.cons_cons _ (.refl _))))))))
        refine ⟨hH19051, ?_⟩
        refine d_end (by kernel_rfl) ?_
        exact ⟨_, _, _, _, _, _, _, _, hr19034, hr19026, hS19050, rfl, rfl, rfl, rfl, rfl, rfl, rfl, rfl, rfl, rfl, rfl, rfl, rfl, rfl⟩
       ·cases ho
        refine wl_alloc ty133 rfl hS19018 ?_
        intro b19052 w19053 hS19054
        refine wl_nil ?_
        have hH19055 := hS19054.toHeld.mono (Mem.le_refl _) (List.Sublist.subset (.cons _ (.cons_cons _ (.cons_cons _ (.cons _ (.cons_cons _ (.refl _)))))))
        refine ⟨hH19055, ?_⟩
        refine d_all (rs := [10]) (by kernel_rfl) (by simp) (fun j hj o ho => ?_)
        obtain rfl : j = 10 := by simpa using hj
        cases ho
        refine wl_alloc ty133 rfl hS19054 ?_
        intro b19056 w19057 hS19058
        refine wl_nil ?_
        have hH19059 := hS19058.toHeld.mono (Mem.le_refl _) (List.Sublist.subset (.cons _ (.cons _ (.cons_cons _ (.cons_cons _ (.cons _ (.cons_cons _ (.refl _))))))))
        refine ⟨hH19059, ?_⟩
        refine d_all (rs := [12]) (by kernel_rfl) (by simp) (fun j hj o ho => ?_)
        obtain rfl : j = 12 := by simpa using hj
        cases ho
        refine wl_store_box ty133 hS19058 rfl (v := .agg #[.int .i64 _, .slice _ _ _]) rfl (vs := [.int .i64 _, .slice _ _ _]) rfl rfl rfl .here (cs' := [.int .i64 _, .slice _ _ _]) rfl rfl ?_
        intro w19060 hS19061
        refine wl_nil ?_
        have hH19062 := hS19061.toHeld.mono (Mem.le_refl _) (List.Sublist.subset (.cons _ (.cons _ (.cons_cons _ (.cons_cons _ (.cons _ (.cons_cons _ (.refl _))))))))
        refine ⟨hH19062, ?_⟩
        refine d_all (rs := [13]) (by kernel_rfl) (by simp) (fun j hj o ho => ?_)
        obtain rfl : j = 13 := by simpa using hj
        cases ho
        refine wl_store_box ty133 hS19061 rfl (v := .agg #[.int .i64 _, .slice _ _ _]) rfl (vs := [.int .i64 _, .slice _ _ _]) rfl rfl rfl (.there .here) (cs' := [.int .i64 _, .slice _ _ _]) rfl rfl ?_
        intro w19063 hS19064
        refine wl_nil ?_
        have hH19065 := hS19064.toHeld.mono (Mem.le_refl _) (List.Sublist.subset (.cons _ (.cons _ (.cons_cons _ (.cons_cons _ (.cons _ (.cons_cons _ (.refl _))))))))
        refine ⟨hH19065, ?_⟩
        refine d_end (by kernel_rfl) ?_
        have hS19066 := hS19064.front (.there (.there (.there (.there (.there .here)))))
        have hS19067 := hS19066.front (.there (.there (.there (.there (.there .here)))))
        have hS19068 := hS19067.front (.there (.there (.there (.there (.there .here)))))
        have hS19069 := hS19068.front (.there (.there (.there (.there (.there .here)))))
        have hS19070 := hS19069.front (.there (.there (.there (.there .here))))
        have hS19071 := hS19070.front (.there (.there (.there (.there (.there .here)))))
        exact ⟨_, _, _, _, _, _, _, _, hr19034, hr19026, hS19071, rfl, rfl, rfl, rfl, rfl, rfl, rfl, rfl, rfl, rfl, rfl, rfl, rfl, rfl⟩
      ·cases ho
       refine wl_alloc ty133 rfl hS19018 ?_
       intro b19072 w19073 hS19074
       refine wl_nil ?_
       have hH19075 := hS19074.toHeld.mono (Mem.le_refl _) (List.Sublist.subset (.cons _ (.cons_cons _ (.cons_cons _ (.cons _ (.cons_cons _ (.refl _)))))))
       refine ⟨hH19075, ?_⟩
       refine d_all (rs := [9, 11]) (by kernel_rfl) (by simp) (fun j hj o ho => ?_)
       simp only [List.mem_cons, List.not_mem_nil, or_false] at hj
       rcases hj with rfl | rfl
       ·cases ho
        refine wl_h hS19074.toHeld (r_row ty133 (k := 0) (i := y18914.toNat) (.there (.there (.there .here))) rfl rfl (row_room hrc18889 hx18980) hes19029 rfl (v := .agg #[.int .i64 _, .slice _ _ _]) rfl) <| wl_nil ?_
        have hH19076 := hS19074.toHeld.mono (Mem.le_refl _) (List.Sublist.subset (.cons _ (.cons_cons _ (.cons_cons _ (.cons _ (.cons_cons _ (.refl _)))))))
        refine ⟨hH19076, ?_⟩
        refine d_all (rs := [11]) (by kernel_rfl) (by simp) (fun j hj o ho => ?_)
        obtain rfl : j = 11 := by simpa using hj
        cases ho
        refine wl_alloc ty133 rfl hS19074 ?_
        intro b19077 w19078 hS19079
        refine wl_nil ?_
        have hH19080 := hS19079.toHeld.mono (Mem.le_refl _) (List.Sublist.subset (.cons _ (.cons _ (.cons_cons _ (.cons_cons _ (.cons _ (.cons_cons _ (.refl _))))))))
        refine ⟨hH19080, ?_⟩
        refine d_all (rs := [12]) (by kernel_rfl) (by simp) (fun j hj o ho => ?_)
        obtain rfl : j = 12 := by simpa using hj
        cases ho
        refine wl_store_box ty133 hS19079 rfl (v := .agg #[.int .i64 _, .slice _ _ _]) rfl (vs := [.int .i64 _, .slice _ _ _]) rfl rfl rfl (.there .here) (cs' := [.int .i64 _, .slice _ _ _]) rfl rfl ?_
        intro w19081 hS19082
        refine wl_nil ?_
        have hH19083 := hS19082.toHeld.mono (Mem.le_refl _) (List.Sublist.subset (.cons _ (.cons _ (.cons_cons _ (.cons_cons _ (.cons _ (.cons_cons _ (.refl _))))))))
        refine ⟨hH19083, ?_⟩
        refine d_all (rs := [13]) (by kernel_rfl) (by simp) (fun j hj o ho => ?_)
        obtain rfl : j = 13 := by simpa using hj
        cases ho
        refine wl_store_box ty133 hS19082 rfl (v := .agg #[.int .i64 _, .slice _ _ _]) rfl (vs := [.int .i64 _, .slice _ _ _]) rfl rfl rfl .here (cs' := [.int .i64 _, .slice _ _ _]) rfl rfl ?_
        intro w19084 hS19085
        refine wl_nil ?_
        have hH19086 := hS19085.toHeld.mono (Mem.le_refl _) (List.Sublist.subset (.cons _ (.cons _ (.cons_cons _ (.cons_cons _ (.cons _ (.cons_cons _ (.refl _))))))))
        refine ⟨hH19086, ?_⟩
        refine d_end (by kernel_rfl) ?_
        exact ⟨_, _, _, _, _, _, _, _, hr19034, hr19026, hS19085, rfl, rfl, rfl, rfl, rfl, rfl, rfl, rfl, rfl, rfl, rfl, rfl, rfl, rfl⟩
       ·cases ho
        refine wl_alloc ty133 rfl hS19074 ?_
        intro b19087 w19088 hS19089
        refine wl_nil ?_
        have hH19090 := hS19089.toHeld.mono (Mem.le_refl _) (List.Sublist.subset (.cons _ (.cons _ (.cons_cons _ (.cons_cons _ (.cons _ (.cons_cons _ (.refl _))))))))
        refine ⟨hH19090, ?_⟩
        refine d_all (rs := [9, 12]) (by kernel_rfl) (by simp) (fun j hj o ho => ?_)
        simp only [List.mem_cons, List.not_mem_nil, or_false] at hj
        rcases hj with rfl | rfl
        ·cases ho
         refine wl_h hS19089.toHeld (r_row ty133 (k := 0) (i := y18914.toNat) (.there (.there (.there (.there .here)))) rfl rfl (row_room hrc18889 hx18980) hes19029 rfl (v := .agg #[.int .i64 _, .slice _ _ _]) rfl) <| wl_nil ?_
         have hH19091 := hS19089.toHeld.mono (Mem.le_refl _) (List.Sublist.subset (.cons _ (.cons _ (.cons_cons _ (.cons_cons _ (.cons _ (.cons_cons _ (.refl _))))))))
         refine ⟨hH19091, ?_⟩
         refine d_all (rs := [12]) (by kernel_rfl) (by simp) (fun j hj o ho => ?_)
         obtain rfl : j = 12 := by simpa using hj
         cases ho
         refine wl_store_box ty133 hS19089 rfl (v := .agg #[.int .i64 _, .slice _ _ _]) rfl (vs := [.int .i64 _, .slice _ _ _]) rfl rfl rfl (.there .here) (cs' := [.int .i64 _, .slice _ _ _]) rfl rfl ?_
         intro w19092 hS19093
         refine wl_nil ?_
         have hH19094 := hS19093.toHeld.mono (Mem.le_refl _) (List.Sublist.subset (.cons _ (.cons _ (.cons_cons _ (.cons_cons _ (.cons _ (.cons_cons _ (.refl _))))))))
         refine ⟨hH19094, ?_⟩
         refine d_all (rs := [13]) (by kernel_rfl) (by simp) (fun j hj o ho => ?_)
         obtain rfl : j = 13 := by simpa using hj
         cases ho
         refine wl_store_box ty133 hS19093 rfl (v := .agg #[.int .i64 _, .slice _ _ _]) rfl (vs := [.int .i64 _, .slice _ _ _]) rfl rfl rfl .here (cs' := [.int .i64 _, .slice _ _ _]) rfl rfl ?_
         intro w19095 hS19096
         refine wl_nil ?_
         have hH19097 := hS19096.toHeld.mono (Mem.le_refl _) (List.Sublist.subset (.cons _ (.cons _ (.cons_cons _ (.cons_cons _ (.cons _ (.cons_cons _ (.refl _))))))))
         refine ⟨hH19097, ?_⟩
         refine d_end (by kernel_rfl) ?_
         exact ⟨_, _, _, _, _, _, _, _, hr19034, hr19026, hS19096, rfl, rfl, rfl, rfl, rfl, rfl, rfl, rfl, rfl, rfl, rfl, rfl, rfl, rfl⟩
        ·cases ho
         refine wl_store_box ty133 hS19089 rfl (v := .agg #[.int .i64 _, .slice _ _ _]) rfl (vs := [.int .i64 _, .slice _ _ _]) rfl rfl rfl (.there .here) (cs' := [.int .i64 _, .slice _ _ _]) rfl rfl ?_
         intro w19098 hS19099
         refine wl_nil ?_
         have hH19100 := hS19099.toHeld.mono (Mem.le_refl _) (List.Sublist.subset (.cons _ (.cons _ (.cons_cons _ (.cons_cons _ (.cons _ (.cons_cons _ (.refl _))))))))
         refine ⟨hH19100, ?_⟩
         refine d_all (rs := [9]) (by kernel_rfl) (by simp) (fun j hj o ho => ?_)
         obtain rfl : j = 9 := by simpa using hj
         cases ho
         refine wl_h hS19099.toHeld (r_row ty133 (k := 0) (i := y18914.toNat) (.there (.there (.there (.there .here)))) rfl rfl (row_room hrc18889 hx18980) hes19029 rfl (v := .agg #[.int .i64 _, .slice _ _ _]) rfl) <| wl_nil ?_
         have hH19101 := hS19099.toHeld.mono (Mem.le_refl _) (List.Sublist.subset (.cons _ (.cons _ (.cons_cons _ (.cons_cons _ (.cons _ (.cons_cons _ (.refl _))))))))
         refine ⟨hH19101, ?_⟩
         refine d_all (rs := [13]) (by kernel_rfl) (by simp) (fun j hj o ho => ?_)
         obtain rfl : j = 13 := by simpa using hj
         cases ho
         refine wl_store_box ty133 hS19099 rfl (v := .agg #[.int .i64 _, .slice _ _ _]) rfl (vs := [.int .i64 _, .slice _ _ _]) rfl rfl rfl .here (cs' := [.int .i64 _, .slice _ _ _]) rfl rfl ?_
         intro w19102 hS19103
         refine wl_nil ?_
         have hH19104 := hS19103.toHeld.mono (Mem.le_refl _) (List.Sublist.subset (.cons _ (.cons _ (.cons_cons _ (.cons_cons _ (.cons _ (.cons_cons _ (.refl _))))))))
         refine ⟨hH19104, ?_⟩
         refine d_end (by kernel_rfl) ?_
         exact ⟨_, _, _, _, _, _, _, _, hr19034, hr19026, hS19103, rfl, rfl, rfl, rfl, rfl, rfl, rfl, rfl, rfl, rfl, rfl, rfl, rfl, rfl⟩
      ·cases ho
       refine wl_alloc ty133 rfl hS19018 ?_
       intro b19105 w19106 hS19107
       refine wl_nil ?_
       have hH19108 := hS19107.toHeld.mono (Mem.le_refl _) (List.Sublist.subset (.cons _ (.cons_cons _ (.cons_cons _ (.cons _ (.cons_cons _ (.refl _)))))))
       refine ⟨hH19108, ?_⟩
       refine d_all (rs := [9, 10]) (by kernel_rfl) (by simp) (fun j hj o ho => ?_)
       simp only [List.mem_cons, List.not_mem_nil, or_false] at hj
       rcases hj with rfl | rfl
       ·cases ho
        refine wl_h hS19107.toHeld (r_row ty133 (k := 0) (i := y18914.toNat) (.there (.there (.there .here))) rfl rfl (row_room hrc18889 hx18980) hes19029 rfl (v := .agg #[.int .i64 _, .slice _ _ _]) rfl) <| wl_nil ?_
        have hH19109 := hS19107.toHeld.mono (Mem.le_refl _) (List.Sublist.subset (.cons _ (.cons_cons _ (.cons_cons _ (.cons _ (.cons_cons _ (.refl _)))))))
        refine ⟨hH19109, ?_⟩
        refine d_all (rs := [10]) (by kernel_rfl) (by simp) (fun j hj o ho => ?_)
        obtain rfl : j = 10 := by simpa using hj
        cases ho
        refine wl_alloc ty133 rfl hS19107 ?_
        intro b19110 w19111 hS19112
        refine wl_nil ?_
        have hH19113 := hS19112.toHeld.mono (Mem.le_refl _) (List.Sublist.subset (.cons _ (.cons _ (.cons_cons _ (.cons_cons _ (.cons _ (.cons_cons _ (.refl _))))))))
        refine ⟨hH19113, ?_⟩
        refine d_all (rs := [12]) (by kernel_rfl) (by simp) (fun j hj o ho => ?_)
        obtain rfl : j = 12 := by simpa using hj
        cases ho
        refine wl_store_box ty133 hS19112 rfl (v := .agg #[.int .i64 _, .slice _ _ _]) rfl (vs := [.int .i64 _, .slice _ _ _]) rfl rfl rfl .here (cs' := [.int .i64 _, .slice _ _ _]) rfl rfl ?_
        intro w19114 hS19115
        refine wl_nil ?_
        have hH19116 := hS19115.toHeld.mono (Mem.le_refl _) (List.Sublist.subset (.cons _ (.cons _ (.cons_cons _ (.cons_cons _ (.cons _ (.cons_cons _ (.refl _))))))))
        refine ⟨hH19116, ?_⟩
        refine d_all (rs := [13]) (by kernel_rfl) (by simp) (fun j hj o ho => ?_)
        obtain rfl : j = 13 := by simpa using hj
        cases ho
        refine wl_store_box ty133 hS19115 rfl (v := .agg #[.int .i64 _, .slice _ _ _]) rfl (vs := [.int .i64 _, .slice _ _ _]) rfl rfl rfl (.there .here) (cs' := [.int .i64 _, .slice _ _ _]) rfl rfl ?_
        intro w19117 hS19118
        refine wl_nil ?_
        have hH19119 := hS19118.toHeld.mono (Mem.le_refl _) (List.Sublist.subset (.cons _ (.cons _ (.cons_cons _ (.cons_cons _ (.cons _ (.cons_cons _ (.refl _))))))))
        refine ⟨hH19119, ?_⟩
        refine d_end (by kernel_rfl) ?_
        have hS19120 := hS19118.front (.there (.there (.there (.there (.there .here)))))
        have hS19121 := hS19120.front (.there (.there (.there (.there (.there .here)))))
        have hS19122 := hS19121.front (.there (.there (.there (.there (.there .here)))))
        have hS19123 := hS19122.front (.there (.there (.there (.there (.there .here)))))
        have hS19124 := hS19123.front (.there (.there (.there (.there .here))))
        have hS19125 := hS19124.front (.there (.there (.there (.there (.there .here)))))
        exact ⟨_, _, _, _, _, _, _, _, hr19034, hr19026, hS19125, rfl, rfl, rfl, rfl, rfl, rfl, rfl, rfl, rfl, rfl, rfl, rfl, rfl, rfl⟩
       ·cases ho
        refine wl_alloc ty133 rfl hS19107 ?_
        intro b19126 w19127 hS19128
        refine wl_nil ?_
        have hH19129 := hS19128.toHeld.mono (Mem.le_refl _) (List.Sublist.subset (.cons _ (.cons _ (.cons_cons _ (.cons_cons _ (.cons _ (.cons_cons _ (.refl _))))))))
        refine ⟨hH19129, ?_⟩
        refine d_all (rs := [9, 12]) (by kernel_rfl) (by simp) (fun j hj o ho => ?_)
        simp only [List.mem_cons, List.not_mem_nil, or_false] at hj
        rcases hj with rfl | rfl
        ·cases ho
         refine wl_h hS19128.toHeld (r_row ty133 (k := 0) (i := y18914.toNat) (.there (.there (.there (.there .here)))) rfl rfl (row_room hrc18889 hx18980) hes19029 rfl (v := .agg #[.int .i64 _, .slice _ _ _]) rfl) <| wl_nil ?_
         have hH19130 := hS19128.toHeld.mono (Mem.le_refl _) (List.Sublist.subset (.cons _ (.cons _ (.cons_cons _ (.cons_cons _ (.cons _ (.cons_cons _ (.refl _))))))))
         refine ⟨hH19130, ?_⟩
         refine d_all (rs := [12]) (by kernel_rfl) (by simp) (fun j hj o ho => ?_)
         obtain rfl : j = 12 := by simpa using hj
         cases ho
         refine wl_store_box ty133 hS19128 rfl (v := .agg #[.int .i64 _, .slice _ _ _]) rfl (vs := [.int .i64 _, .slice _ _ _]) rfl rfl rfl .here (cs' := [.int .i64 _, .slice _ _ _]) rfl rfl ?_
         intro w19131 hS19132
         refine wl_nil ?_
         have hH19133 := hS19132.toHeld.mono (Mem.le_refl _) (List.Sublist.subset (.cons _ (.cons _ (.cons_cons _ (.cons_cons _ (.cons _ (.cons_cons _ (.refl _))))))))
         refine ⟨hH19133, ?_⟩
         refine d_all (rs := [13]) (by kernel_rfl) (by simp) (fun j hj o ho => ?_)
         obtain rfl : j = 13 := by simpa using hj
         cases ho
         refine wl_store_box ty133 hS19132 rfl (v := .agg #[.int .i64 _, .slice _ _ _]) rfl (vs := [.int .i64 _, .slice _ _ _]) rfl rfl rfl (.there .here) (cs' := [.int .i64 _, .slice _ _ _]) rfl rfl ?_
         intro w19134 hS19135
         refine wl_nil ?_
         have hH19136 := hS19135.toHeld.mono (Mem.le_refl _) (List.Sublist.subset (.cons _ (.cons _ (.cons_cons _ (.cons_cons _ (.cons _ (.cons_cons _ (.refl _))))))))
         refine ⟨hH19136, ?_⟩
         refine d_end (by kernel_rfl) ?_
         have hS19137 := hS19135.front (.there (.there (.there (.there (.there .here)))))
         have hS19138 := hS19137.front (.there (.there (.there (.there (.there .here)))))
         have hS19139 := hS19138.front (.there (.there (.there (.there (.there .here)))))
         have hS19140 := hS19139.front (.there (.there (.there (.there (.there .here)))))
         have hS19141 := hS19140.front (.there (.there (.there (.there .here))))
         have hS19142 := hS19141.front (.there (.there (.there (.there (.there .here)))))
         exact ⟨_, _, _, _, _, _, _, _, hr19034, hr19026, hS19142, rfl, rfl, rfl, rfl, rfl, rfl, rfl, rfl, rfl, rfl, rfl, rfl, rfl, rfl⟩
        ·cases ho
         refine wl_store_box ty133 hS19128 rfl (v := .agg #[.int .i64 _, .slice _ _ _]) rfl (vs := [.int .i64 _, .slice _ _ _]) rfl rfl rfl .here (cs' := [.int .i64 _, .slice _ _ _]) rfl rfl ?_
         intro w19143 hS19144
         refine wl_nil ?_
         have hH19145 := hS19144.toHeld.mono (Mem.le_refl _) (List.Sublist.subset (.cons _ (.cons _ (.cons_cons _ (.cons_cons _ (.cons _ (.cons_cons _ (.refl _))))))))
         refine ⟨hH19145, ?_⟩
         refine d_all (rs := [9]) (by kernel_rfl) (by simp) (fun j hj o ho => ?_)
         obtain rfl : j = 9 := by simpa using hj
         cases ho
         refine wl_h hS19144.toHeld (r_row ty133 (k := 0) (i := y18914.toNat) (.there (.there (.there (.there .here)))) rfl rfl (row_room hrc18889 hx18980) hes19029 rfl (v := .agg #[.int .i64 _, .slice _ _ _]) rfl) <| wl_nil ?_
         have hH19146 := hS19144.toHeld.mono (Mem.le_refl _) (List.Sublist.subset (.cons _ (.cons _ (.cons_cons _ (.cons_cons _ (.cons _ (.cons_cons _ (.refl _))))))))
         refine ⟨hH19146, ?_⟩
         refine d_all (rs := [13]) (by kernel_rfl) (by simp) (fun j hj o ho => ?_)
         obtain rfl : j = 13 := by simpa using hj
         cases ho
         refine wl_store_box ty133 hS19144 rfl (v := .agg #[.int .i64 _, .slice _ _ _]) rfl (vs := [.int .i64 _, .slice _ _ _]) rfl rfl rfl (.there .here) (cs' := [.int .i64 _, .slice _ _ _]) rfl rfl ?_
         intro w19147 hS19148
         refine wl_nil ?_
         have hH19149 := hS19148.toHeld.mono (Mem.le_refl _) (List.Sublist.subset (.cons _ (.cons _ (.cons_cons _ (.cons_cons _ (.cons _ (.cons_cons _ (.refl _))))))))
         refine ⟨hH19149, ?_⟩
         refine d_end (by kernel_rfl) ?_
         have hS19150 := hS19148.front (.there (.there (.there (.there (.there .here)))))
         have hS19151 := hS19150.front (.there (.there (.there (.there (.there .here)))))
         have hS19152 := hS19151.front (.there (.there (.there (.there (.there .here)))))
         have hS19153 := hS19152.front (.there (.there (.there (.there (.there .here)))))
         have hS19154 := hS19153.front (.there (.there (.there (.there .here))))
         have hS19155 := hS19154.front (.there (.there (.there (.there (.there .here)))))
         exact ⟨_, _, _, _, _, _, _, _, hr19034, hr19026, hS19155, rfl, rfl, rfl, rfl, rfl, rfl, rfl, rfl, rfl, rfl, rfl, rfl, rfl, rfl⟩
     ·cases ho
      refine wl_h hS19018.toHeld (r_row ty133 (k := 0) (i := y18914.toNat) (.there (.there .here)) rfl rfl (row_room hrc18889 hx18980) hes19029 rfl (v := .agg #[.int .i64 _, .slice _ _ _]) rfl) <| wl_nil ?_
      have hH19156 := hS19018.toHeld.mono (Mem.le_refl _) (List.Sublist.subset (.cons_cons _ (.cons_cons _ (.cons _ (.cons_cons _ (.refl _))))))
      refine ⟨hH19156, ?_⟩
      refine d_all (rs := [4, 10, 11]) (by kernel_rfl) (by simp) (fun j hj o ho => ?_)
      simp only [List.mem_cons, List.not_mem_nil, or_false] at hj
      rcases hj with rfl | rfl | rfl
      ·cases ho
       refine wl_h hS19018.toHeld (r_row ty133 (k := 0) (i := y18910.toNat) (.there (.there .here)) rfl rfl (row_room hrc18889 hx18967) hes19021 rfl (v := .agg #[.int .i64 _, .slice _ _ _]) rfl) <| wl_nil ?_
       have hH19157 := hS19018.toHeld.mono (Mem.le_refl _) (List.Sublist.subset (.cons_cons _ (.cons_cons _ (.cons _ (.cons_cons _ (.refl _))))))
       refine ⟨hH19157, ?_⟩
       refine d_all (rs := [10, 11]) (by kernel_rfl) (by simp) (fun j hj o ho => ?_)
       simp only [List.mem_cons, List.not_mem_nil, or_false] at hj
       rcases hj with rfl | rfl
       ·cases ho
        refine wl_alloc ty133 rfl hS19018 ?_
        intro b19158 w19159 hS19160
        refine wl_nil ?_
        have hH19161 := hS19160.toHeld.mono (Mem.le_refl _) (List.Sublist.subset (.cons _ (.cons_cons _ (.cons_cons _ (.cons _ (.cons_cons _ (.refl _)))))))
        refine ⟨hH19161, ?_⟩
        refine d_all (rs := [11]) (by kernel_rfl) (by simp) (fun j hj o ho => ?_)
        obtain rfl : j = 11 := by simpa using hj
        cases ho
        refine wl_alloc ty133 rfl hS19160 ?_
        intro b19162 w19163 hS19164
        refine wl_nil ?_
        have hH19165 := hS19164.toHeld.mono (Mem.le_refl _) (List.Sublist.subset (.cons _ (.cons _ (.cons_cons _ (.cons_cons _ (.cons _ (.cons_cons _ (.refl _))))))))
        refine ⟨hH19165, ?_⟩
        refine d_all (rs := [12]) (by kernel_rfl) (by simp) (fun j hj o ho => ?_)
        obtain rfl : j = 12 := by simpa using hj
        cases ho
        refine wl_store_box ty133 hS19164 rfl (v := .agg #[.int .i64 _, .slice _ _ _]) rfl (vs := [.int .i64 _, .slice _ _ _]) rfl rfl rfl (.there .here) (cs' := [.int .i64 _, .slice _ _ _]) rfl rfl ?_
        intro w19166 hS19167
        refine wl_nil ?_
        have hH19168 := hS19167.toHeld.mono (Mem.le_refl _) (List.Sublist.subset (.cons _ (.cons _ (.cons_cons _ (.cons_cons _ (.cons _ (.cons_cons _ (.refl _))))))))
        refine ⟨hH19168, ?_⟩
        refine d_all (rs := [13]) (by kernel_rfl) (by simp) (fun j hj o ho => ?_)
        obtain rfl : j = 13 := by simpa using hj
        cases ho
        refine wl_store_box ty133 hS19167 rfl (v := .agg #[.int .i64 _, .slice _ _ _]) rfl (vs := [.int .i64 _, .slice _ _ _]) rfl rfl rfl .here (cs' := [.int .i64 _, .slice _ _ _]) rfl rfl ?_
        intro w19169 hS19170
        refine wl_nil ?_
        have hH19171 := hS19170.toHeld.mono (Mem.le_refl _) (List.Sublist.subset (.cons _ (.cons _ (.cons_cons _ (.cons_cons _ (.cons _ (.cons_cons _ (.refl _))))))))
        refine ⟨hH19171, ?_⟩
        refine d_end (by kernel_rfl) ?_
        exact ⟨_, _, _, _, _, _, _, _, hr19034, hr19026, hS19170, rfl, rfl, rfl, rfl, rfl, rfl, rfl, rfl, rfl, rfl, rfl, rfl, rfl, rfl⟩
       ·cases ho
        refine wl_alloc ty133 rfl hS19018 ?_
        intro b19172 w19173 hS19174
        refine wl_nil ?_
        have hH19175 := hS19174.toHeld.mono (Mem.le_refl _) (List.Sublist.subset (.cons _ (.cons_cons _ (.cons_cons _ (.cons _ (.cons_cons _ (.refl _)))))))
        refine ⟨hH19175, ?_⟩
        refine d_all (rs := [10]) (by kernel_rfl) (by simp) (fun j hj o ho => ?_)
        obtain rfl : j = 10 := by simpa using hj
        cases ho
        refine wl_alloc ty133 rfl hS19174 ?_
        intro b19176 w19177 hS19178
        refine wl_nil ?_
        have hH19179 := hS19178.toHeld.mono (Mem.le_refl _) (List.Sublist.subset (.cons _ (.cons _ (.cons_cons _ (.cons_cons _ (.cons _ (.cons_cons _ (.refl _))))))))
        refine ⟨hH19179, ?_⟩
        refine d_all (rs := [12]) (by kernel_rfl) (by simp) (fun j hj o ho => ?_)
        obtain rfl : j = 12 := by simpa using hj
        cases ho
        refine wl_store_box ty133 hS19178 rfl (v := .agg #[.int .i64 _, .slice _ _ _]) rfl (vs := [.int .i64 _, .slice _ _ _]) rfl rfl rfl .here (cs' := [.int .i64 _, .slice _ _ _]) rfl rfl ?_
        intro w19180 hS19181
        refine wl_nil ?_
        have hH19182 := hS19181.toHeld.mono (Mem.le_refl _) (List.Sublist.subset (.cons _ (.cons _ (.cons_cons _ (.cons_cons _ (.cons _ (.cons_cons _ (.refl _))))))))
        refine ⟨hH19182, ?_⟩
        refine d_all (rs := [13]) (by kernel_rfl) (by simp) (fun j hj o ho => ?_)
        obtain rfl : j = 13 := by simpa using hj
        cases ho
        refine wl_store_box ty133 hS19181 rfl (v := .agg #[.int .i64 _, .slice _ _ _]) rfl (vs := [.int .i64 _, .slice _ _ _]) rfl rfl rfl (.there .here) (cs' := [.int .i64 _, .slice _ _ _]) rfl rfl ?_
        intro w19183 hS19184
        refine wl_nil ?_
        have hH19185 := hS19184.toHeld.mono (Mem.le_refl _) (List.Sublist.subset (.cons _ (.cons _ (.cons_cons _ (.cons_cons _ (.cons _ (.cons_cons _ (.refl _))))))))
        refine ⟨hH19185, ?_⟩
        refine d_end (by kernel_rfl) ?_
        have hS19186 := hS19184.front (.there (.there (.there (.there (.there .here)))))
        have hS19187 := hS19186.front (.there (.there (.there (.there (.there .here)))))
        have hS19188 := hS19187.front (.there (.there (.there (.there (.there .here)))))
        have hS19189 := hS19188.front (.there (.there (.there (.there (.there .here)))))
        have hS19190 := hS19189.front (.there (.there (.there (.there .here))))
        have hS19191 := hS19190.front (.there (.there (.there (.there (.there .here)))))
        exact ⟨_, _, _, _, _, _, _, _, hr19034, hr19026, hS19191, rfl, rfl, rfl, rfl, rfl, rfl, rfl, rfl, rfl, rfl, rfl, rfl, rfl, rfl⟩
      ·cases ho
       refine wl_alloc ty133 rfl hS19018 ?_
       intro b19192 w19193 hS19194
       refine wl_nil ?_
       have hH19195 := hS19194.toHeld.mono (Mem.le_refl _) (List.Sublist.subset (.cons _ (.cons_cons _ (.cons_cons _ (.cons _ (.cons_cons _ (.refl _)))))))
       refine ⟨hH19195, ?_⟩
       refine d_all (rs := [4, 11]) (by kernel_rfl) (by simp) (fun j hj o ho => ?_)
       simp only [List.mem_cons, List.not_mem_nil, or_false] at hj
       rcases hj with rfl | rfl
       ·cases ho
        refine wl_h hS19194.toHeld (r_row ty133 (k := 0) (i := y18910.toNat) (.there (.there (.there .here))) rfl rfl (row_room hrc18889 hx18967) hes19021 rfl (v := .agg #[.int .i64 _, .slice _ _ _]) rfl) <| wl_nil ?_
        have hH19196 := hS19194.toHeld.mono (Mem.le_refl _) (List.Sublist.subset (.cons _ (.cons_cons _ (.cons_cons _ (.cons _ (.cons_cons _ (.refl _)))))))
        refine ⟨hH19196, ?_⟩
        refine d_all (rs := [11]) (by kernel_rfl) (by simp) (fun j hj o ho => ?_)
        obtain rfl : j = 11 := by simpa using hj
        cases ho
        refine wl_alloc ty133 rfl hS19194 ?_
        intro b19197 w19198 hS19199
        refine wl_nil ?_
        have hH19200 := hS19199.toHeld.mono (Mem.le_refl _) (List.Sublist.subset (.cons _ (.cons _ (.cons_cons _ (.cons_cons _ (.cons _ (.cons_cons _ (.refl _))))))))
        refine ⟨hH19200, ?_⟩
        refine d_all (rs := [12]) (by kernel_rfl) (by simp) (fun j hj o ho => ?_)
        obtain rfl : j = 12 := by simpa using hj
        cases ho
        refine wl_store_box ty133 hS19199 rfl (v := .agg #[.int .i64 _, .slice _ _ _]) rfl (vs := [.int .i64 _, .slice _ _ _]) rfl rfl rfl (.there .here) (cs' := [.int .i64 _, .slice _ _ _]) rfl rfl ?_
        intro w19201 hS19202
        refine wl_nil ?_
        have hH19203 := hS19202.toHeld.mono (Mem.le_refl _) (List.Sublist.subset (.cons _ (.cons _ (.cons_cons _ (.cons_cons _ (.cons _ (.cons_cons _ (.refl _))))))))
        refine ⟨hH19203, ?_⟩
        refine d_all (rs := [13]) (by kernel_rfl) (by simp) (fun j hj o ho => ?_)
        obtain rfl : j = 13 := by simpa using hj
        cases ho
        refine wl_store_box ty133 hS19202 rfl (v := .agg #[.int .i64 _, .slice _ _ _]) rfl (vs := [.int .i64 _, .slice _ _ _]) rfl rfl rfl .here (cs' := [.int .i64 _, .slice _ _ _]) rfl rfl ?_
        intro w19204 hS19205
        refine wl_nil ?_
        have hH19206 := hS19205.toHeld.mono (Mem.le_refl _) (List.Sublist.subset (.cons _ (.cons _ (.cons_cons _ (.cons_cons _ (.cons _ (.cons_cons _ (.refl _))))))))
        refine ⟨hH19206, ?_⟩
        refine d_end (by kernel_rfl) ?_
        exact ⟨_, _, _, _, _, _, _, _, hr19034, hr19026, hS19205, rfl, rfl, rfl, rfl, rfl, rfl, rfl, rfl, rfl, rfl, rfl, rfl, rfl, rfl⟩
       ·cases ho
        refine wl_alloc ty133 rfl hS19194 ?_
        intro b19207 w19208 hS19209
        refine wl_nil ?_
        have hH19210 := hS19209.toHeld.mono (Mem.le_refl _) (List.Sublist.subset (.cons _ (.cons _ (.cons_cons _ (.cons_cons _ (.cons _ (.cons_cons _ (.refl _))))))))
        refine ⟨hH19210, ?_⟩
        refine d_all (rs := [4]) (by kernel_rfl) (by simp) (fun j hj o ho => ?_)
        obtain rfl : j = 4 := by simpa using hj
        cases ho
        refine wl_h hS19209.toHeld (r_row ty133 (k := 0) (i := y18910.toNat) (.there (.there (.there (.there .here)))) rfl rfl (row_room hrc18889 hx18967) hes19021 rfl (v := .agg #[.int .i64 _, .slice _ _ _]) rfl) <| wl_nil ?_
        have hH19211 := hS19209.toHeld.mono (Mem.le_refl _) (List.Sublist.subset (.cons _ (.cons _ (.cons_cons _ (.cons_cons _ (.cons _ (.cons_cons _ (.refl _))))))))
        refine ⟨hH19211, ?_⟩
        refine d_all (rs := [12]) (by kernel_rfl) (by simp) (fun j hj o ho => ?_)
        obtain rfl : j = 12 := by simpa using hj
        cases ho
        refine wl_store_box ty133 hS19209 rfl (v := .agg #[.int .i64 _, .slice _ _ _]) rfl (vs := [.int .i64 _, .slice _ _ _]) rfl rfl rfl (.there .here) (cs' := [.int .i64 _, .slice _ _ _]) rfl rfl ?_
        intro w19212 hS19213
        refine wl_nil ?_
        have hH19214 := hS19213.toHeld.mono (Mem.le_refl _) (List.Sublist.subset (.cons _ (.cons _ (.cons_cons _ (.cons_cons _ (.cons _ (.cons_cons _ (.refl _))))))))
        refine ⟨hH19214, ?_⟩
        refine d_all (rs := [13]) (by kernel_rfl) (by simp) (fun j hj o ho => ?_)
        obtain rfl : j = 13 := by simpa using hj
        cases ho
        refine wl_store_box ty133 hS19213 rfl (v := .agg #[.int .i64 _, .slice _ _ _]) rfl (vs := [.int .i64 _, .slice _ _ _]) rfl rfl rfl .here (cs' := [.int .i64 _, .slice _ _ _]) rfl rfl ?_
        intro w19215 hS19216
        refine wl_nil ?_
        have hH19217 := hS19216.toHeld.mono (Mem.le_refl _) (List.Sublist.subset (.cons _ (.cons _ (.cons_cons _ (.cons_cons _ (.cons _ (.cons_cons _ (.refl _))))))))
        refine ⟨hH19217, ?_⟩
        refine d_end (by kernel_rfl) ?_
        exact ⟨_, _, _, _, _, _, _, _, hr19034, hr19026, hS19216, rfl, rfl, rfl, rfl, rfl, rfl, rfl, rfl, rfl, rfl, rfl, rfl, rfl, rfl⟩
      ·cases ho
       refine wl_alloc ty133 rfl hS19018 ?_
       intro b19218 w19219 hS19220
       refine wl_nil ?_
       have hH19221 := hS19220.toHeld.mono (Mem.le_refl _) (List.Sublist.subset (.cons _ (.cons_cons _ (.cons_cons _ (.cons _ (.cons_cons _ (.refl _)))))))
       refine ⟨hH19221, ?_⟩
       refine d_all (rs := [4, 10]) (by kernel_rfl) (by simp) (fun j hj o ho => ?_)
       simp only [List.mem_cons, List.not_mem_nil, or_false] at hj
       rcases hj with rfl | rfl
       ·cases ho
        refine wl_h hS19220.toHeld (r_row ty133 (k := 0) (i := y18910.toNat) (.there (.there (.there .here))) rfl rfl (row_room hrc18889 hx18967) hes19021 rfl (v := .agg #[.int .i64 _, .slice _ _ _]) rfl) <| wl_nil ?_
        have hH19222 := hS19220.toHeld.mono (Mem.le_refl _) (List.Sublist.subset (.cons _ (.cons_cons _ (.cons_cons _ (.cons _ (.cons_cons _ (.refl _)))))))
        refine ⟨hH19222, ?_⟩
        refine d_all (rs := [10]) (by kernel_rfl) (by simp) (fun j hj o ho => ?_)
        obtain rfl : j = 10 := by simpa using hj
        cases ho
        refine wl_alloc ty133 rfl hS19220 ?_
        intro b19223 w19224 hS19225
        refine wl_nil ?_
        have hH19226 := hS19225.toHeld.mono (Mem.le_refl _) (List.Sublist.subset (.cons _ (.cons _ (.cons_cons _ (.cons_cons _ (.cons _ (.cons_cons _ (.refl _))))))))
        refine ⟨hH19226, ?_⟩
        refine d_all (rs := [12]) (by kernel_rfl) (by simp) (fun j hj o ho => ?_)
        obtain rfl : j = 12 := by simpa using hj
        cases ho
        refine wl_store_box ty133 hS19225 rfl (v := .agg #[.int .i64 _, .slice _ _ _]) rfl (vs := [.int .i64 _, .slice _ _ _]) rfl rfl rfl .here (cs' := [.int .i64 _, .slice _ _ _]) rfl rfl ?_
        intro w19227 hS19228
        refine wl_nil ?_
        have hH19229 := hS19228.toHeld.mono (Mem.le_refl _) (List.Sublist.subset (.cons _ (.cons _ (.cons_cons _ (.cons_cons _ (.cons _ (.cons_cons _ (.refl _))))))))
        refine ⟨hH19229, ?_⟩
        refine d_all (rs := [13]) (by kernel_rfl) (by simp) (fun j hj o ho => ?_)
        obtain rfl : j = 13 := by simpa using hj
        cases ho
        refine wl_store_box ty133 hS19228 rfl (v := .agg #[.int .i64 _, .slice _ _ _]) rfl (vs := [.int .i64 _, .slice _ _ _]) rfl rfl rfl (.there .here) (cs' := [.int .i64 _, .slice _ _ _]) rfl rfl ?_
        intro w19230 hS19231
        refine wl_nil ?_
        have hH19232 := hS19231.toHeld.mono (Mem.le_refl _) (List.Sublist.subset (.cons _ (.cons _ (.cons_cons _ (.cons_cons _ (.cons _ (.cons_cons _ (.refl _))))))))
        refine ⟨hH19232, ?_⟩
        refine d_end (by kernel_rfl) ?_
        have hS19233 := hS19231.front (.there (.there (.there (.there (.there .here)))))
        have hS19234 := hS19233.front (.there (.there (.there (.there (.there .here)))))
        have hS19235 := hS19234.front (.there (.there (.there (.there (.there .here)))))
        have hS19236 := hS19235.front (.there (.there (.there (.there (.there .here)))))
        have hS19237 := hS19236.front (.there (.there (.there (.there .here))))
        have hS19238 := hS19237.front (.there (.there (.there (.there (.there .here)))))
        exact ⟨_, _, _, _, _, _, _, _, hr19034, hr19026, hS19238, rfl, rfl, rfl, rfl, rfl, rfl, rfl, rfl, rfl, rfl, rfl, rfl, rfl, rfl⟩
       ·cases ho
        refine wl_alloc ty133 rfl hS19220 ?_
        intro b19239 w19240 hS19241
        refine wl_nil ?_
        have hH19242 := hS19241.toHeld.mono (Mem.le_refl _) (List.Sublist.subset (.cons _ (.cons _ (.cons_cons _ (.cons_cons _ (.cons _ (.cons_cons _ (.refl _))))))))
        refine ⟨hH19242, ?_⟩
        refine d_all (rs := [4]) (by kernel_rfl) (by simp) (fun j hj o ho => ?_)
        obtain rfl : j = 4 := by simpa using hj
        cases ho
        refine wl_h hS19241.toHeld (r_row ty133 (k := 0) (i := y18910.toNat) (.there (.there (.there (.there .here)))) rfl rfl (row_room hrc18889 hx18967) hes19021 rfl (v := .agg #[.int .i64 _, .slice _ _ _]) rfl) <| wl_nil ?_
        have hH19243 := hS19241.toHeld.mono (Mem.le_refl _) (List.Sublist.subset (.cons _ (.cons _ (.cons_cons _ (.cons_cons _ (.cons _ (.cons_cons _ (.refl _))))))))
        refine ⟨hH19243, ?_⟩
        refine d_all (rs := [12]) (by kernel_rfl) (by simp) (fun j hj o ho => ?_)
        obtain rfl : j = 12 := by simpa using hj
        cases ho
        refine wl_store_box ty133 hS19241 rfl (v := .agg #[.int .i64 _, .slice _ _ _]) rfl (vs := [.int .i64 _, .slice _ _ _]) rfl rfl rfl .here (cs' := [.int .i64 _, .slice _ _ _]) rfl rfl ?_
        intro w19244 hS19245
        refine wl_nil ?_
        have hH19246 := hS19245.toHeld.mono (Mem.le_refl _) (List.Sublist.subset (.cons _ (.cons _ (.cons_cons _ (.cons_cons _ (.cons _ (.cons_cons _ (.refl _))))))))
        refine ⟨hH19246, ?_⟩
        refine d_all (rs := [13]) (by kernel_rfl) (by simp) (fun j hj o ho => ?_)
        obtain rfl : j = 13 := by simpa using hj
        cases ho
        refine wl_store_box ty133 hS19245 rfl (v := .agg #[.int .i64 _, .slice _ _ _]) rfl (vs := [.int .i64 _, .slice _ _ _]) rfl rfl rfl (.there .here) (cs' := [.int .i64 _, .slice _ _ _]) rfl rfl ?_
        intro w19247 hS19248
        refine wl_nil ?_
        have hH19249 := hS19248.toHeld.mono (Mem.le_refl _) (List.Sublist.subset (.cons _ (.cons _ (.cons_cons _ (.cons_cons _ (.cons _ (.cons_cons _ (.refl _))))))))
        refine ⟨hH19249, ?_⟩
        refine d_end (by kernel_rfl) ?_
        have hS19250 := hS19248.front (.there (.there (.there (.there (.there .here)))))
        have hS19251 := hS19250.front (.there (.there (.there (.there (.there .here)))))
        have hS19252 := hS19251.front (.there (.there (.there (.there (.there .here)))))
        have hS19253 := hS19252.front (.there (.there (.there (.there (.there .here)))))
        have hS19254 := hS19253.front (.there (.there (.there (.there .here))))
        have hS19255 := hS19254.front (.there (.there (.there (.there (.there .here)))))
        exact ⟨_, _, _, _, _, _, _, _, hr19034, hr19026, hS19255, rfl, rfl, rfl, rfl, rfl, rfl, rfl, rfl, rfl, rfl, rfl, rfl, rfl, rfl⟩
     ·cases ho
      refine wl_alloc ty133 rfl hS19018 ?_
      intro b19256 w19257 hS19258
      refine wl_nil ?_
      have hH19259 := hS19258.toHeld.mono (Mem.le_refl _) (List.Sublist.subset (.cons _ (.cons_cons _ (.cons_cons _ (.cons _ (.cons_cons _ (.refl _)))))))
      refine ⟨hH19259, ?_⟩
      refine d_all (rs := [4, 9, 11]) (by kernel_rfl) (by simp) (fun j hj o ho => ?_)
      simp only [List.mem_cons, List.not_mem_nil, or_false] at hj
      rcases hj with rfl | rfl | rfl
      ·cases ho
       refine wl_h hS19258.toHeld (r_row ty133 (k := 0) (i := y18910.toNat) (.there (.there (.there .here))) rfl rfl (row_room hrc18889 hx18967) hes19021 rfl (v := .agg #[.int .i64 _, .slice _ _ _]) rfl) <| wl_nil ?_
       have hH19260 := hS19258.toHeld.mono (Mem.le_refl _) (List.Sublist.subset (.cons _ (.cons_cons _ (.cons_cons _ (.cons _ (.cons_cons _ (.refl _)))))))
       refine ⟨hH19260, ?_⟩
       refine d_all (rs := [9, 11]) (by kernel_rfl) (by simp) (fun j hj o ho => ?_)
       simp only [List.mem_cons, List.not_mem_nil, or_false] at hj
       rcases hj with rfl | rfl
       ·cases ho
        refine wl_h hS19258.toHeld (r_row ty133 (k := 0) (i := y18914.toNat) (.there (.there (.there .here))) rfl rfl (row_room hrc18889 hx18980) hes19029 rfl (v := .agg #[.int .i64 _, .slice _ _ _]) rfl) <| wl_nil ?_
        have hH19261 := hS19258.toHeld.mono (Mem.le_refl _) (List.Sublist.subset (.cons _ (.cons_cons _ (.cons_cons _ (.cons _ (.cons_cons _ (.refl _)))))))
        refine ⟨hH19261, ?_⟩
        refine d_all (rs := [11]) (by kernel_rfl) (by simp) (fun j hj o ho => ?_)
        obtain rfl : j = 11 := by simpa using hj
        cases ho
        refine wl_alloc ty133 rfl hS19258 ?_
        intro b19262 w19263 hS19264
        refine wl_nil ?_
        have hH19265 := hS19264.toHeld.mono (Mem.le_refl _) (List.Sublist.subset (.cons _ (.cons _ (.cons_cons _ (.cons_cons _ (.cons _ (.cons_cons _ (.refl _))))))))
        refine ⟨hH19265, ?_⟩
        refine d_all (rs := [12]) (by kernel_rfl) (by simp) (fun j hj o ho => ?_)
        obtain rfl : j = 12 := by simpa using hj
        cases ho
        refine wl_store_box ty133 hS19264 rfl (v := .agg #[.int .i64 _, .slice _ _ _]) rfl (vs := [.int .i64 _, .slice _ _ _]) rfl rfl rfl (.there .here) (cs' := [.int .i64 _, .slice _ _ _]) rfl rfl ?_
        intro w19266 hS19267
        refine wl_nil ?_
        have hH19268 := hS19267.toHeld.mono (Mem.le_refl _) (List.Sublist.subset (.cons _ (.cons _ (.cons_cons _ (.cons_cons _ (.cons _ (.cons_cons _ (.refl _))))))))
        refine ⟨hH19268, ?_⟩
        refine d_all (rs := [13]) (by kernel_rfl) (by simp) (fun j hj o ho => ?_)
        obtain rfl : j = 13 := by simpa using hj
        cases ho
        refine wl_store_box ty133 hS19267 rfl (v := .agg #[.int .i64 _, .slice _ _ _]) rfl (vs := [.int .i64 _, .slice _ _ _]) rfl rfl rfl .here (cs' := [.int .i64 _, .slice _ _ _]) rfl rfl ?_
        intro w19269 hS19270
        refine wl_nil ?_
        have hH19271 := hS19270.toHeld.mono (Mem.le_refl _) (List.Sublist.subset (.cons _ (.cons _ (.cons_cons _ (.cons_cons _ (.cons _ (.cons_cons _ (.refl _))))))))
        refine ⟨hH19271, ?_⟩
        refine d_end (by kernel_rfl) ?_
        exact ⟨_, _, _, _, _, _, _, _, hr19034, hr19026, hS19270, rfl, rfl, rfl, rfl, rfl, rfl, rfl, rfl, rfl, rfl, rfl, rfl, rfl, rfl⟩
       ·cases ho
        refine wl_alloc ty133 rfl hS19258 ?_
        intro b19272 w19273 hS19274
        refine wl_nil ?_
        have hH19275 := hS19274.toHeld.mono (Mem.le_refl _) (List.Sublist.subset (.cons _ (.cons _ (.cons_cons _ (.cons_cons _ (.cons _ (.cons_cons _ (.refl _))))))))
        refine ⟨hH19275, ?_⟩
        refine d_all (rs := [9, 12]) (by kernel_rfl) (by simp) (fun j hj o ho => ?_)
        simp only [List.mem_cons, List.not_mem_nil, or_false] at hj
        rcases hj with rfl | rfl
        ·cases ho
         refine wl_h hS19274.toHeld (r_row ty133 (k := 0) (i := y18914.toNat) (.there (.there (.there (.there .here)))) rfl rfl (row_room hrc18889 hx18980) hes19029 rfl (v := .agg #[.int .i64 _, .slice _ _ _]) rfl) <| wl_nil ?_
         have hH19276 := hS19274.toHeld.mono (Mem.le_refl _) (List.Sublist.subset (.cons _ (.cons _ (.cons_cons _ (.cons_cons _ (.cons _ (.cons_cons _ (.refl _))))))))
         refine ⟨hH19276, ?_⟩
         refine d_all (rs := [12]) (by kernel_rfl) (by simp) (fun j hj o ho => ?_)
         obtain rfl : j = 12 := by simpa using hj
         cases ho
         refine wl_store_box ty133 hS19274 rfl (v := .agg #[.int .i64 _, .slice _ _ _]) rfl (vs := [.int .i64 _, .slice _ _ _]) rfl rfl rfl (.there .here) (cs' := [.int .i64 _, .slice _ _ _]) rfl rfl ?_
         intro w19277 hS19278
         refine wl_nil ?_
         have hH19279 := hS19278.toHeld.mono (Mem.le_refl _) (List.Sublist.subset (.cons _ (.cons _ (.cons_cons _ (.cons_cons _ (.cons _ (.cons_cons _ (.refl _))))))))
         refine ⟨hH19279, ?_⟩
         refine d_all (rs := [13]) (by kernel_rfl) (by simp) (fun j hj o ho => ?_)
         obtain rfl : j = 13 := by simpa using hj
         cases ho
         refine wl_store_box ty133 hS19278 rfl (v := .agg #[.int .i64 _, .slice _ _ _]) rfl (vs := [.int .i64 _, .slice _ _ _]) rfl rfl rfl .here (cs' := [.int .i64 _, .slice _ _ _]) rfl rfl ?_
         intro w19280 hS19281
         refine wl_nil ?_
         have hH19282 := hS19281.toHeld.mono (Mem.le_refl _) (List.Sublist.subset (.cons _ (.cons _ (.cons_cons _ (.cons_cons _ (.cons _ (.cons_cons _ (.refl _))))))))
         refine ⟨hH19282, ?_⟩
         refine d_end (by kernel_rfl) ?_
         exact ⟨_, _, _, _, _, _, _, _, hr19034, hr19026, hS19281, rfl, rfl, rfl, rfl, rfl, rfl, rfl, rfl, rfl, rfl, rfl, rfl, rfl, rfl⟩
        ·cases ho
         refine wl_store_box ty133 hS19274 rfl (v := .agg #[.int .i64 _, .slice _ _ _]) rfl (vs := [.int .i64 _, .slice _ _ _]) rfl rfl rfl (.there .here) (cs' := [.int .i64 _, .slice _ _ _]) rfl rfl ?_
         intro w19283 hS19284
         refine wl_nil ?_
         have hH19285 := hS19284.toHeld.mono (Mem.le_refl _) (List.Sublist.subset (.cons _ (.cons _ (.cons_cons _ (.cons_cons _ (.cons _ (.cons_cons _ (.refl _))))))))
         refine ⟨hH19285, ?_⟩
         refine d_all (rs := [9]) (by kernel_rfl) (by simp) (fun j hj o ho => ?_)
         obtain rfl : j = 9 := by simpa using hj
         cases ho
         refine wl_h hS19284.toHeld (r_row ty133 (k := 0) (i := y18914.toNat) (.there (.there (.there (.there .here)))) rfl rfl (row_room hrc18889 hx18980) hes19029 rfl (v := .agg #[.int .i64 _, .slice _ _ _]) rfl) <| wl_nil ?_
         have hH19286 := hS19284.toHeld.mono (Mem.le_refl _) (List.Sublist.subset (.cons _ (.cons _ (.cons_cons _ (.cons_cons _ (.cons _ (.cons_cons _ (.refl _))))))))
         refine ⟨hH19286, ?_⟩
         refine d_all (rs := [13]) (by kernel_rfl) (by simp) (fun j hj o ho => ?_)
         obtain rfl : j = 13 := by simpa using hj
         cases ho
         refine wl_store_box ty133 hS19284 rfl (v := .agg #[.int .i64 _, .slice _ _ _]) rfl (vs := [.int .i64 _, .slice _ _ _]) rfl rfl rfl .here (cs' := [.int .i64 _, .slice _ _ _]) rfl rfl ?_
         intro w19287 hS19288
         refine wl_nil ?_
         have hH19289 := hS19288.toHeld.mono (Mem.le_refl _) (List.Sublist.subset (.cons _ (.cons _ (.cons_cons _ (.cons_cons _ (.cons _ (.cons_cons _ (.refl _))))))))
         refine ⟨hH19289, ?_⟩
         refine d_end (by kernel_rfl) ?_
         exact ⟨_, _, _, _, _, _, _, _, hr19034, hr19026, hS19288, rfl, rfl, rfl, rfl, rfl, rfl, rfl, rfl, rfl, rfl, rfl, rfl, rfl, rfl⟩
      ·cases ho
       refine wl_h hS19258.toHeld (r_row ty133 (k := 0) (i := y18914.toNat) (.there (.there (.there .here))) rfl rfl (row_room hrc18889 hx18980) hes19029 rfl (v := .agg #[.int .i64 _, .slice _ _ _]) rfl) <| wl_nil ?_
       have hH19290 := hS19258.toHeld.mono (Mem.le_refl _) (List.Sublist.subset (.cons _ (.cons_cons _ (.cons_cons _ (.cons _ (.cons_cons _ (.refl _)))))))
       refine ⟨hH19290, ?_⟩
       refine d_all (rs := [4, 11]) (by kernel_rfl) (by simp) (fun j hj o ho => ?_)
       simp only [List.mem_cons, List.not_mem_nil, or_false] at hj
       rcases hj with rfl | rfl
       ·cases ho
        refine wl_h hS19258.toHeld (r_row ty133 (k := 0) (i := y18910.toNat) (.there (.there (.there .here))) rfl rfl (row_room hrc18889 hx18967) hes19021 rfl (v := .agg #[.int .i64 _, .slice _ _ _]) rfl) <| wl_nil ?_
        have hH19291 := hS19258.toHeld.mono (Mem.le_refl _) (List.Sublist.subset (.cons _ (.cons_cons _ (.cons_cons _ (.cons _ (.cons_cons _ (.refl _)))))))
        refine ⟨hH19291, ?_⟩
        refine d_all (rs := [11]) (by kernel_rfl) (by simp) (fun j hj o ho => ?_)
        obtain rfl : j = 11 := by simpa using hj
        cases ho
        refine wl_alloc ty133 rfl hS19258 ?_
        intro b19292 w19293 hS19294
        refine wl_nil ?_
        have hH19295 := hS19294.toHeld.mono (Mem.le_refl _) (List.Sublist.subset (.cons _ (.cons _ (.cons_cons _ (.cons_cons _ (.cons _ (.cons_cons _ (.refl _))))))))
        refine ⟨hH19295, ?_⟩
        refine d_all (rs := [12]) (by kernel_rfl) (by simp) (fun j hj o ho => ?_)
        obtain rfl : j = 12 := by simpa using hj
        cases ho
        refine wl_store_box ty133 hS19294 rfl (v := .agg #[.int .i64 _, .slice _ _ _]) rfl (vs := [.int .i64 _, .slice _ _ _]) rfl rfl rfl (.there .here) (cs' := [.int .i64 _, .slice _ _ _]) rfl rfl ?_
        intro w19296 hS19297
        refine wl_nil ?_
        have hH19298 := hS19297.toHeld.mono (Mem.le_refl _) (List.Sublist.subset (.cons _ (.cons _ (.cons_cons _ (.cons_cons _ (.cons _ (.cons_cons _ (.refl _))))))))
        refine ⟨hH19298, ?_⟩
        refine d_all (rs := [13]) (by kernel_rfl) (by simp) (fun j hj o ho => ?_)
        obtain rfl : j = 13 := by simpa using hj
        cases ho
        refine wl_store_box ty133 hS19297 rfl (v := .agg #[.int .i64 _, .slice _ _ _]) rfl (vs := [.int .i64 _, .slice _ _ _]) rfl rfl rfl .here (cs' := [.int .i64 _, .slice _ _ _]) rfl rfl ?_
        intro w19299 hS19300
        refine wl_nil ?_
        have hH19301 := hS19300.toHeld.mono (Mem.le_refl _) (List.Sublist.subset (.cons _ (.cons _ (.cons_cons _ (.cons_cons _ (.cons _ (.cons_cons _ (.refl _))))))))
        refine ⟨hH19301, ?_⟩
        refine d_end (by kernel_rfl) ?_
        exact ⟨_, _, _, _, _, _, _, _, hr19034, hr19026, hS19300, rfl, rfl, rfl, rfl, rfl, rfl, rfl, rfl, rfl, rfl, rfl, rfl, rfl, rfl⟩
       ·cases ho
        refine wl_alloc ty133 rfl hS19258 ?_
        intro b19302 w19303 hS19304
        refine wl_nil ?_
        have hH19305 := hS19304.toHeld.mono (Mem.le_refl _) (List.Sublist.subset (.cons _ (.cons _ (.cons_cons _ (.cons_cons _ (.cons _ (.cons_cons _ (.refl _))))))))
        refine ⟨hH19305, ?_⟩
        refine d_all (rs := [4]) (by kernel_rfl) (by simp) (fun j hj o ho => ?_)
        obtain rfl : j = 4 := by simpa using hj
        cases ho
        refine wl_h hS19304.toHeld (r_row ty133 (k := 0) (i := y18910.toNat) (.there (.there (.there (.there .here)))) rfl rfl (row_room hrc18889 hx18967) hes19021 rfl (v := .agg #[.int .i64 _, .slice _ _ _]) rfl) <| wl_nil ?_
        have hH19306 := hS19304.toHeld.mono (Mem.le_refl _) (List.Sublist.subset (.cons _ (.cons _ (.cons_cons _ (.cons_cons _ (.cons _ (.cons_cons _ (.refl _))))))))
        refine ⟨hH19306, ?_⟩
        refine d_all (rs := [12]) (by kernel_rfl) (by simp) (fun j hj o ho => ?_)
        obtain rfl : j = 12 := by simpa using hj
        cases ho
        refine wl_store_box ty133 hS19304 rfl (v := .agg #[.int .i64 _, .slice _ _ _]) rfl (vs := [.int .i64 _, .slice _ _ _]) rfl rfl rfl (.there .here) (cs' := [.int .i64 _, .slice _ _ _]) rfl rfl ?_
        intro w19307 hS19308
        refine wl_nil ?_
        have hH19309 := hS19308.toHeld.mono (Mem.le_refl _) (List.Sublist.subset (.cons _ (.cons _ (.cons_cons _ (.cons_cons _ (.cons _ (.cons_cons _ (.refl _))))))))
        refine ⟨hH19309, ?_⟩
        refine d_all (rs := [13]) (by kernel_rfl) (by simp) (fun j hj o ho => ?_)
        obtain rfl : j = 13 := by simpa using hj
        cases ho
        refine wl_store_box ty133 hS19308 rfl (v := .agg #[.int .i64 _, .slice _ _ _]) rfl (vs := [.int .i64 _, .slice _ _ _]) rfl rfl rfl .here (cs' := [.int .i64 _, .slice _ _ _]) rfl rfl ?_
        intro w19310 hS19311
        refine wl_nil ?_
        have hH19312 := hS19311.toHeld.mono (Mem.le_refl _) (List.Sublist.subset (.cons _ (.cons _ (.cons_cons _ (.cons_cons _ (.cons _ (.cons_cons _ (.refl _))))))))
        refine ⟨hH19312, ?_⟩
        refine d_end (by kernel_rfl) ?_
        exact ⟨_, _, _, _, _, _, _, _, hr19034, hr19026, hS19311, rfl, rfl, rfl, rfl, rfl, rfl, rfl, rfl, rfl, rfl, rfl, rfl, rfl, rfl⟩
      ·cases ho
       refine wl_alloc ty133 rfl hS19258 ?_
       intro b19313 w19314 hS19315
       refine wl_nil ?_
       have hH19316 := hS19315.toHeld.mono (Mem.le_refl _) (List.Sublist.subset (.cons _ (.cons _ (.cons_cons _ (.cons_cons _ (.cons _ (.cons_cons _ (.refl _))))))))
       refine ⟨hH19316, ?_⟩
       refine d_all (rs := [4, 9]) (by kernel_rfl) (by simp) (fun j hj o ho => ?_)
       simp only [List.mem_cons, List.not_mem_nil, or_false] at hj
       rcases hj with rfl | rfl
       ·cases ho
        refine wl_h hS19315.toHeld (r_row ty133 (k := 0) (i := y18910.toNat) (.there (.there (.there (.there .here)))) rfl rfl (row_room hrc18889 hx18967) hes19021 rfl (v := .agg #[.int .i64 _, .slice _ _ _]) rfl) <| wl_nil ?_
        have hH19317 := hS19315.toHeld.mono (Mem.le_refl _) (List.Sublist.subset (.cons _ (.cons _ (.cons_cons _ (.cons_cons _ (.cons _ (.cons_cons _ (.refl _))))))))
        refine ⟨hH19317, ?_⟩
        refine d_all (rs := [9, 12]) (by kernel_rfl) (by simp) (fun j hj o ho => ?_)
        simp only [List.mem_cons, List.not_mem_nil, or_false] at hj
        rcases hj with rfl | rfl
        ·cases ho
         refine wl_h hS19315.toHeld (r_row ty133 (k := 0) (i := y18914.toNat) (.there (.there (.there (.there .here)))) rfl rfl (row_room hrc18889 hx18980) hes19029 rfl (v := .agg #[.int .i64 _, .slice _ _ _]) rfl) <| wl_nil ?_
         have hH19318 := hS19315.toHeld.mono (Mem.le_refl _) (List.Sublist.subset (.cons _ (.cons _ (.cons_cons _ (.cons_cons _ (.cons _ (.cons_cons _ (.refl _))))))))
         refine ⟨hH19318, ?_⟩
         refine d_all (rs := [12]) (by kernel_rfl) (by simp) (fun j hj o ho => ?_)
         obtain rfl : j = 12 := by simpa using hj
         cases ho
         refine wl_store_box ty133 hS19315 rfl (v := .agg #[.int .i64 _, .slice _ _ _]) rfl (vs := [.int .i64 _, .slice _ _ _]) rfl rfl rfl (.there .here) (cs' := [.int .i64 _, .slice _ _ _]) rfl rfl ?_
         intro w19319 hS19320
         refine wl_nil ?_
         have hH19321 := hS19320.toHeld.mono (Mem.le_refl _) (List.Sublist.subset (.cons _ (.cons _ (.cons_cons _ (.cons_cons _ (.cons _ (.cons_cons _ (.refl _))))))))
         refine ⟨hH19321, ?_⟩
         refine d_all (rs := [13]) (by kernel_rfl) (by simp) (fun j hj o ho => ?_)
         obtain rfl : j = 13 := by simpa using hj
         cases ho
         refine wl_store_box ty133 hS19320 rfl (v := .agg #[.int .i64 _, .slice _ _ _]) rfl (vs := [.int .i64 _, .slice _ _ _]) rfl rfl rfl .here (cs' := [.int .i64 _, .slice _ _ _]) rfl rfl ?_
         intro w19322 hS19323
         refine wl_nil ?_
         have hH19324 := hS19323.toHeld.mono (Mem.le_refl _) (List.Sublist.subset (.cons _ (.cons _ (.cons_cons _ (.cons_cons _ (.cons _ (.cons_cons _ (.refl _))))))))
         refine ⟨hH19324, ?_⟩
         refine d_end (by kernel_rfl) ?_
         exact ⟨_, _, _, _, _, _, _, _, hr19034, hr19026, hS19323, rfl, rfl, rfl, rfl, rfl, rfl, rfl, rfl, rfl, rfl, rfl, rfl, rfl, rfl⟩
        ·cases ho
         refine wl_store_box ty133 hS19315 rfl (v := .agg #[.int .i64 _, .slice _ _ _]) rfl (vs := [.int .i64 _, .slice _ _ _]) rfl rfl rfl (.there .here) (cs' := [.int .i64 _, .slice _ _ _]) rfl rfl ?_
         intro w19325 hS19326
         refine wl_nil ?_
         have hH19327 := hS19326.toHeld.mono (Mem.le_refl _) (List.Sublist.subset (.cons _ (.cons _ (.cons_cons _ (.cons_cons _ (.cons _ (.cons_cons _ (.refl _))))))))
         refine ⟨hH19327, ?_⟩
         refine d_all (rs := [9]) (by kernel_rfl) (by simp) (fun j hj o ho => ?_)
         obtain rfl : j = 9 := by simpa using hj
         cases ho
         refine wl_h hS19326.toHeld (r_row ty133 (k := 0) (i := y18914.toNat) (.there (.there (.there (.there .here)))) rfl rfl (row_room hrc18889 hx18980) hes19029 rfl (v := .agg #[.int .i64 _, .slice _ _ _]) rfl) <| wl_nil ?_
         have hH19328 := hS19326.toHeld.mono (Mem.le_refl _) (List.Sublist.subset (.cons _ (.cons _ (.cons_cons _ (.cons_cons _ (.cons _ (.cons_cons _ (.refl _))))))))
         refine ⟨hH19328, ?_⟩
         refine d_all (rs := [13]) (by kernel_rfl) (by simp) (fun j hj o ho => ?_)
         obtain rfl : j = 13 := by simpa using hj
         cases ho
         refine wl_store_box ty133 hS19326 rfl (v := .agg #[.int .i64 _, .slice _ _ _]) rfl (vs := [.int .i64 _, .slice _ _ _]) rfl rfl rfl .here (cs' := [.int .i64 _, .slice _ _ _]) rfl rfl ?_
         intro w19329 hS19330
         refine wl_nil ?_
         have hH19331 := hS19330.toHeld.mono (Mem.le_refl _) (List.Sublist.subset (.cons _ (.cons _ (.cons_cons _ (.cons_cons _ (.cons _ (.cons_cons _ (.refl _))))))))
         refine ⟨hH19331, ?_⟩
         refine d_end (by kernel_rfl) ?_
         exact ⟨_, _, _, _, _, _, _, _, hr19034, hr19026, hS19330, rfl, rfl, rfl, rfl, rfl, rfl, rfl, rfl, rfl, rfl, rfl, rfl, rfl, rfl⟩
       ·cases ho
        refine wl_h hS19315.toHeld (r_row ty133 (k := 0) (i := y18914.toNat) (.there (.there (.there (.there .here)))) rfl rfl (row_room hrc18889 hx18980) hes19029 rfl (v := .agg #[.int .i64 _, .slice _ _ _]) rfl) <| wl_nil ?_
        have hH19332 := hS19315.toHeld.mono (Mem.le_refl _) (List.Sublist.subset (.cons _ (.cons _ (.cons_cons _ (.cons_cons _ (.cons _ (.cons_cons _ (.refl _))))))))
        refine ⟨hH19332, ?_⟩
        refine d_all (rs := [4]) (by kernel_rfl) (by simp) (fun j hj o ho => ?_)
        obtain rfl : j = 4 := by simpa using hj
        cases ho
        refine wl_h hS19315.toHeld (r_row ty133 (k := 0) (i := y18910.toNat) (.there (.there (.there (.there .here)))) rfl rfl (row_room hrc18889 hx18967) hes19021 rfl (v := .agg #[.int .i64 _, .slice _ _ _]) rfl) <| wl_nil ?_
        have hH19333 := hS19315.toHeld.mono (Mem.le_refl _) (List.Sublist.subset (.cons _ (.cons _ (.cons_cons _ (.cons_cons _ (.cons _ (.cons_cons _ (.refl _))))))))
        refine ⟨hH19333, ?_⟩
        refine d_all (rs := [12]) (by kernel_rfl) (by simp) (fun j hj o ho => ?_)
        obtain rfl : j = 12 := by simpa using hj
        cases ho
        refine wl_store_box ty133 hS19315 rfl (v := .agg #[.int .i64 _, .slice _ _ _]) rfl (vs := [.int .i64 _, .slice _ _ _]) rfl rfl rfl (.there .here) (cs' := [.int .i64 _, .slice _ _ _]) rfl rfl ?_
        intro w19334 hS19335
        refine wl_nil ?_
        have hH19336 := hS19335.toHeld.mono (Mem.le_refl _) (List.Sublist.subset (.cons _ (.cons _ (.cons_cons _ (.cons_cons _ (.cons _ (.cons_cons _ (.refl _))))))))
        refine ⟨hH19336, ?_⟩
        refine d_all (rs := [13]) (by kernel_rfl) (by simp) (fun j hj o ho => ?_)
        obtain rfl : j = 13 := by simpa using hj
        cases ho
        refine wl_store_box ty133 hS19335 rfl (v := .agg #[.int .i64 _, .slice _ _ _]) rfl (vs := [.int .i64 _, .slice _ _ _]) rfl rfl rfl .here (cs' := [.int .i64 _, .slice _ _ _]) rfl rfl ?_
        intro w19337 hS19338
        refine wl_nil ?_
        have hH19339 := hS19338.toHeld.mono (Mem.le_refl _) (List.Sublist.subset (.cons _ (.cons _ (.cons_cons _ (.cons_cons _ (.cons _ (.cons_cons _ (.refl _))))))))
        refine ⟨hH19339, ?_⟩
        refine d_end (by kernel_rfl) ?_
        exact ⟨_, _, _, _, _, _, _, _, hr19034, hr19026, hS19338, rfl, rfl, rfl, rfl, rfl, rfl, rfl, rfl, rfl, rfl, rfl, rfl, rfl, rfl⟩
     ·cases ho
      refine wl_alloc ty133 rfl hS19018 ?_
      intro b19340 w19341 hS19342
      refine wl_nil ?_
      have hH19343 := hS19342.toHeld.mono (Mem.le_refl _) (List.Sublist.subset (.cons _ (.cons_cons _ (.cons_cons _ (.cons _ (.cons_cons _ (.refl _)))))))
      refine ⟨hH19343, ?_⟩
      refine d_all (rs := [4, 9, 10]) (by kernel_rfl) (by simp) (fun j hj o ho => ?_)
      simp only [List.mem_cons, List.not_mem_nil, or_false] at hj
      rcases hj with rfl | rfl | rfl
      ·cases ho
       refine wl_h hS19342.toHeld (r_row ty133 (k := 0) (i := y18910.toNat) (.there (.there (.there .here))) rfl rfl (row_room hrc18889 hx18967) hes19021 rfl (v := .agg #[.int .i64 _, .slice _ _ _]) rfl) <| wl_nil ?_
       have hH19344 := hS19342.toHeld.mono (Mem.le_refl _) (List.Sublist.subset (.cons _ (.cons_cons _ (.cons_cons _ (.cons _ (.cons_cons _ (.refl _)))))))
       refine ⟨hH19344, ?_⟩
       refine d_all (rs := [9, 10]) (by kernel_rfl) (by simp) (fun j hj o ho => ?_)
       simp only [List.mem_cons, List.not_mem_nil, or_false] at hj
       rcases hj with rfl | rfl
       ·cases ho
        refine wl_h hS19342.toHeld (r_row ty133 (k := 0) (i := y18914.toNat) (.there (.there (.there .here))) rfl rfl (row_room hrc18889 hx18980) hes19029 rfl (v := .agg #[.int .i64 _, .slice _ _ _]) rfl) <| wl_nil ?_
        have hH19345 := hS19342.toHeld.mono (Mem.le_refl _) (List.Sublist.subset (.cons _ (.cons_cons _ (.cons_cons _ (.cons _ (.cons_cons _ (.refl _)))))))
        refine ⟨hH19345, ?_⟩
        refine d_all (rs := [10]) (by kernel_rfl) (by simp) (fun j hj o ho => ?_)
        obtain rfl : j = 10 := by simpa using hj
        cases ho
        refine wl_alloc ty133 rfl hS19342 ?_
        intro b19346 w19347 hS19348
        refine wl_nil ?_
        have hH19349 := hS19348.toHeld.mono (Mem.le_refl _) (List.Sublist.subset (.cons _ (.cons _ (.cons_cons _ (.cons_cons _ (.cons _ (.cons_cons _ (.refl _))))))))
        refine ⟨hH19349, ?_⟩
        refine d_all (rs := [12]) (by kernel_rfl) (by simp) (fun j hj o ho => ?_)
        obtain rfl : j = 12 := by simpa using hj
        cases ho
        refine wl_store_box ty133 hS19348 rfl (v := .agg #[.int .i64 _, .slice _ _ _]) rfl (vs := [.int .i64 _, .slice _ _ _]) rfl rfl rfl .here (cs' := [.int .i64 _, .slice _ _ _]) rfl rfl ?_
        intro w19350 hS19351
        refine wl_nil ?_
        have hH19352 := hS19351.toHeld.mono (Mem.le_refl _) (List.Sublist.subset (.cons _ (.cons _ (.cons_cons _ (.cons_cons _ (.cons _ (.cons_cons _ (.refl _))))))))
        refine ⟨hH19352, ?_⟩
        refine d_all (rs := [13]) (by kernel_rfl) (by simp) (fun j hj o ho => ?_)
        obtain rfl : j = 13 := by simpa using hj
        cases ho
        refine wl_store_box ty133 hS19351 rfl (v := .agg #[.int .i64 _, .slice _ _ _]) rfl (vs := [.int .i64 _, .slice _ _ _]) rfl rfl rfl (.there .here) (cs' := [.int .i64 _, .slice _ _ _]) rfl rfl ?_
        intro w19353 hS19354
        refine wl_nil ?_
        have hH19355 := hS19354.toHeld.mono (Mem.le_refl _) (List.Sublist.subset (.cons _ (.cons _ (.cons_cons _ (.cons_cons _ (.cons _ (.cons_cons _ (.refl _))))))))
        refine ⟨hH19355, ?_⟩
        refine d_end (by kernel_rfl) ?_
        have hS19356 := hS19354.front (.there (.there (.there (.there (.there .here)))))
        have hS19357 := hS19356.front (.there (.there (.there (.there (.there .here)))))
        have hS19358 := hS19357.front (.there (.there (.there (.there (.there .here)))))
        have hS19359 := hS19358.front (.there (.there (.there (.there (.there .here)))))
        have hS19360 := hS19359.front (.there (.there (.there (.there .here))))
        have hS19361 := hS19360.front (.there (.there (.there (.there (.there .here)))))
        exact ⟨_, _, _, _, _, _, _, _, hr19034, hr19026, hS19361, rfl, rfl, rfl, rfl, rfl, rfl, rfl, rfl, rfl, rfl, rfl, rfl, rfl, rfl⟩
       ·cases ho
        refine wl_alloc ty133 rfl hS19342 ?_
        intro b19362 w19363 hS19364
        refine wl_nil ?_
        have hH19365 := hS19364.toHeld.mono (Mem.le_refl _) (List.Sublist.subset (.cons _ (.cons _ (.cons_cons _ (.cons_cons _ (.cons _ (.cons_cons _ (.refl _))))))))
        refine ⟨hH19365, ?_⟩
        refine d_all (rs := [9, 12]) (by kernel_rfl) (by simp) (fun j hj o ho => ?_)
        simp only [List.mem_cons, List.not_mem_nil, or_false] at hj
        rcases hj with rfl | rfl
        ·cases ho
         refine wl_h hS19364.toHeld (r_row ty133 (k := 0) (i := y18914.toNat) (.there (.there (.there (.there .here)))) rfl rfl (row_room hrc18889 hx18980) hes19029 rfl (v := .agg #[.int .i64 _, .slice _ _ _]) rfl) <| wl_nil ?_
         have hH19366 := hS19364.toHeld.mono (Mem.le_refl _) (List.Sublist.subset (.cons _ (.cons _ (.cons_cons _ (.cons_cons _ (.cons _ (.cons_cons _ (.refl _))))))))
         refine ⟨hH19366, ?_⟩
         refine d_all (rs := [12]) (by kernel_rfl) (by simp) (fun j hj o ho => ?_)
         obtain rfl : j = 12 := by simpa using hj
         cases ho
         refine wl_store_box ty133 hS19364 rfl (v := .agg #[.int .i64 _, .slice _ _ _]) rfl (vs := [.int .i64 _, .slice _ _ _]) rfl rfl rfl .here (cs' := [.int .i64 _, .slice _ _ _]) rfl rfl ?_
         intro w19367 hS19368
         refine wl_nil ?_
         have hH19369 := hS19368.toHeld.mono (Mem.le_refl _) (List.Sublist.subset (.cons _ (.cons _ (.cons_cons _ (.cons_cons _ (.cons _ (.cons_cons _ (.refl _))))))))
         refine ⟨hH19369, ?_⟩
         refine d_all (rs := [13]) (by kernel_rfl) (by simp) (fun j hj o ho => ?_)
         obtain rfl : j = 13 := by simpa using hj
         cases ho
         refine wl_store_box ty133 hS19368 rfl (v := .agg #[.int .i64 _, .slice _ _ _]) rfl (vs := [.int .i64 _, .slice _ _ _]) rfl rfl rfl (.there .here) (cs' := [.int .i64 _, .slice _ _ _]) rfl rfl ?_
         intro w19370 hS19371
         refine wl_nil ?_
         have hH19372 := hS19371.toHeld.mono (Mem.le_refl _) (List.Sublist.subset (.cons _ (.cons _ (.cons_cons _ (.cons_cons _ (.cons _ (.cons_cons _ (.refl _))))))))
         refine ⟨hH19372, ?_⟩
         refine d_end (by kernel_rfl) ?_
         have hS19373 := hS19371.front (.there (.there (.there (.there (.there .here)))))
         have hS19374 := hS19373.front (.there (.there (.there (.there (.there .here)))))
         have hS19375 := hS19374.front (.there (.there (.there (.there (.there .here)))))
         have hS19376 := hS19375.front (.there (.there (.there (.there (.there .here)))))
         have hS19377 := hS19376.front (.there (.there (.there (.there .here))))
         have hS19378 := hS19377.front (.there (.there (.there (.there (.there .here)))))
         exact ⟨_, _, _, _, _, _, _, _, hr19034, hr19026, hS19378, rfl, rfl, rfl, rfl, rfl, rfl, rfl, rfl, rfl, rfl, rfl, rfl, rfl, rfl⟩
        ·cases ho
         refine wl_store_box ty133 hS19364 rfl (v := .agg #[.int .i64 _, .slice _ _ _]) rfl (vs := [.int .i64 _, .slice _ _ _]) rfl rfl rfl .here (cs' := [.int .i64 _, .slice _ _ _]) rfl rfl ?_
         intro w19379 hS19380
         refine wl_nil ?_
         have hH19381 := hS19380.toHeld.mono (Mem.le_refl _) (List.Sublist.subset (.cons _ (.cons _ (.cons_cons _ (.cons_cons _ (.cons _ (.cons_cons _ (.refl _))))))))
         refine ⟨hH19381, ?_⟩
         refine d_all (rs := [9]) (by kernel_rfl) (by simp) (fun j hj o ho => ?_)
         obtain rfl : j = 9 := by simpa using hj
         cases ho
         refine wl_h hS19380.toHeld (r_row ty133 (k := 0) (i := y18914.toNat) (.there (.there (.there (.there .here)))) rfl rfl (row_room hrc18889 hx18980) hes19029 rfl (v := .agg #[.int .i64 _, .slice _ _ _]) rfl) <| wl_nil ?_
         have hH19382 := hS19380.toHeld.mono (Mem.le_refl _) (List.Sublist.subset (.cons _ (.cons _ (.cons_cons _ (.cons_cons _ (.cons _ (.cons_cons _ (.refl _))))))))
         refine ⟨hH19382, ?_⟩
         refine d_all (rs := [13]) (by kernel_rfl) (by simp) (fun j hj o ho => ?_)
         obtain rfl : j = 13 := by simpa using hj
         cases ho
         refine wl_store_box ty133 hS19380 rfl (v := .agg #[.int .i64 _, .slice _ _ _]) rfl (vs := [.int .i64 _, .slice _ _ _]) rfl rfl rfl (.there .here) (cs' := [.int .i64 _, .slice _ _ _]) rfl rfl ?_
         intro w19383 hS19384
         refine wl_nil ?_
         have hH19385 := hS19384.toHeld.mono (Mem.le_refl _) (List.Sublist.subset (.cons _ (.cons _ (.cons_cons _ (.cons_cons _ (.cons _ (.cons_cons _ (.refl _))))))))
         refine ⟨hH19385, ?_⟩
         refine d_end (by kernel_rfl) ?_
         have hS19386 := hS19384.front (.there (.there (.there (.there (.there .here)))))
         have hS19387 := hS19386.front (.there (.there (.there (.there (.there .here)))))
         have hS19388 := hS19387.front (.there (.there (.there (.there (.there .here)))))
         have hS19389 := hS19388.front (.there (.there (.there (.there (.there .here)))))
         have hS19390 := hS19389.front (.there (.there (.there (.there .here))))
         have hS19391 := hS19390.front (.there (.there (.there (.there (.there .here)))))
         exact ⟨_, _, _, _, _, _, _, _, hr19034, hr19026, hS19391, rfl, rfl, rfl, rfl, rfl, rfl, rfl, rfl, rfl, rfl, rfl, rfl, rfl, rfl⟩
      ·cases ho
       refine wl_h hS19342.toHeld (r_row ty133 (k := 0) (i := y18914.toNat) (.there (.there (.there .here))) rfl rfl (row_room hrc18889 hx18980) hes19029 rfl (v := .agg #[.int .i64 _, .slice _ _ _]) rfl) <| wl_nil ?_
       have hH19392 := hS19342.toHeld.mono (Mem.le_refl _) (List.Sublist.subset (.cons _ (.cons_cons _ (.cons_cons _ (.cons _ (.cons_cons _ (.refl _)))))))
       refine ⟨hH19392, ?_⟩
       refine d_all (rs := [4, 10]) (by kernel_rfl) (by simp) (fun j hj o ho => ?_)
       simp only [List.mem_cons, List.not_mem_nil, or_false] at hj
       rcases hj with rfl | rfl
       ·cases ho
        refine wl_h hS19342.toHeld (r_row ty133 (k := 0) (i := y18910.toNat) (.there (.there (.there .here))) rfl rfl (row_room hrc18889 hx18967) hes19021 rfl (v := .agg #[.int .i64 _, .slice _ _ _]) rfl) <| wl_nil ?_
        have hH19393 := hS19342.toHeld.mono (Mem.le_refl _) (List.Sublist.subset (.cons _ (.cons_cons _ (.cons_cons _ (.cons _ (.cons_cons _ (.refl _)))))))
        refine ⟨hH19393, ?_⟩
        refine d_all (rs := [10]) (by kernel_rfl) (by simp) (fun j hj o ho => ?_)
        obtain rfl : j = 10 := by simpa using hj
        cases ho
        refine wl_alloc ty133 rfl hS19342 ?_
        intro b19394 w19395 hS19396
        refine wl_nil ?_
        have hH19397 := hS19396.toHeld.mono (Mem.le_refl _) (List.Sublist.subset (.cons _ (.cons _ (.cons_cons _ (.cons_cons _ (.cons _ (.cons_cons _ (.refl _))))))))
        refine ⟨hH19397, ?_⟩
        refine d_all (rs := [12]) (by kernel_rfl) (by simp) (fun j hj o ho => ?_)
        obtain rfl : j = 12 := by simpa using hj
        cases ho
        refine wl_store_box ty133 hS19396 rfl (v := .agg #[.int .i64 _, .slice _ _ _]) rfl (vs := [.int .i64 _, .slice _ _ _]) rfl rfl rfl .here (cs' := [.int .i64 _, .slice _ _ _]) rfl rfl ?_
        intro w19398 hS19399
        refine wl_nil ?_
        have hH19400 := hS19399.toHeld.mono (Mem.le_refl _) (List.Sublist.subset (.cons _ (.cons _ (.cons_cons _ (.cons_cons _ (.cons _ (.cons_cons _ (.refl _))))))))
        refine ⟨hH19400, ?_⟩
        refine d_all (rs := [13]) (by kernel_rfl) (by simp) (fun j hj o ho => ?_)
        obtain rfl : j = 13 := by simpa using hj
        cases ho
        refine wl_store_box ty133 hS19399 rfl (v := .agg #[.int .i64 _, .slice _ _ _]) rfl (vs := [.int .i64 _, .slice _ _ _]) rfl rfl rfl (.there .here) (cs' := [.int .i64 _, .slice _ _ _]) rfl rfl ?_
        intro w19401 hS19402
        refine wl_nil ?_
        have hH19403 := hS19402.toHeld.mono (Mem.le_refl _) (List.Sublist.subset (.cons _ (.cons _ (.cons_cons _ (.cons_cons _ (.cons _ (.cons_cons _ (.refl _))))))))
        refine ⟨hH19403, ?_⟩
        refine d_end (by kernel_rfl) ?_
        have hS19404 := hS19402.front (.there (.there (.there (.there (.there .here)))))
        have hS19405 := hS19404.front (.there (.there (.there (.there (.there .here)))))
        have hS19406 := hS19405.front (.there (.there (.there (.there (.there .here)))))
        have hS19407 := hS19406.front (.there (.there (.there (.there (.there .here)))))
        have hS19408 := hS19407.front (.there (.there (.there (.there .here))))
        have hS19409 := hS19408.front (.there (.there (.there (.there (.there .here)))))
        exact ⟨_, _, _, _, _, _, _, _, hr19034, hr19026, hS19409, rfl, rfl, rfl, rfl, rfl, rfl, rfl, rfl, rfl, rfl, rfl, rfl, rfl, rfl⟩
       ·cases ho
        refine wl_alloc ty133 rfl hS19342 ?_
        intro b19410 w19411 hS19412
        refine wl_nil ?_
        have hH19413 := hS19412.toHeld.mono (Mem.le_refl _) (List.Sublist.subset (.cons _ (.cons _ (.cons_cons _ (.cons_cons _ (.cons _ (.cons_cons _ (.refl _))))))))
        refine ⟨hH19413, ?_⟩
        refine d_all (rs := [4]) (by kernel_rfl) (by simp) (fun j hj o ho => ?_)
        obtain rfl : j = 4 := by simpa using hj
        cases ho
        refine wl_h hS19412.toHeld (r_row ty133 (k := 0) (i := y18910.toNat) (.there (.there (.there (.there .here)))) rfl rfl (row_room hrc18889 hx18967) hes19021 rfl (v := .agg #[.int .i64 _, .slice _ _ _]) rfl) <| wl_nil ?_
        have hH19414 := hS19412.toHeld.mono (Mem.le_refl _) (List.Sublist.subset (.cons _ (.cons _ (.cons_cons _ (.cons_cons _ (.cons _ (.cons_cons _ (.refl _))))))))
        refine ⟨hH19414, ?_⟩
        refine d_all (rs := [12]) (by kernel_rfl) (by simp) (fun j hj o ho => ?_)
        obtain rfl : j = 12 := by simpa using hj
        cases ho
        refine wl_store_box ty133 hS19412 rfl (v := .agg #[.int .i64 _, .slice _ _ _]) rfl (vs := [.int .i64 _, .slice _ _ _]) rfl rfl rfl .here (cs' := [.int .i64 _, .slice _ _ _]) rfl rfl ?_
        intro w19415 hS19416
        refine wl_nil ?_
        have hH19417 := hS19416.toHeld.mono (Mem.le_refl _) (List.Sublist.subset (.cons _ (.cons _ (.cons_cons _ (.cons_cons _ (.cons _ (.cons_cons _ (.refl _))))))))
        refine ⟨hH19417, ?_⟩
        refine d_all (rs := [13]) (by kernel_rfl) (by simp) (fun j hj o ho => ?_)
        obtain rfl : j = 13 := by simpa using hj
        cases ho
        refine wl_store_box ty133 hS19416 rfl (v := .agg #[.int .i64 _, .slice _ _ _]) rfl (vs := [.int .i64 _, .slice _ _ _]) rfl rfl rfl (.there .here) (cs' := [.int .i64 _, .slice _ _ _]) rfl rfl ?_
        intro w19418 hS19419
        refine wl_nil ?_
        have hH19420 := hS19419.toHeld.mono (Mem.le_refl _) (List.Sublist.subset (.cons _ (.cons _ (.cons_cons _ (.cons_cons _ (.cons _ (.cons_cons _ (.refl _))))))))
        refine ⟨hH19420, ?_⟩
        refine d_end (by kernel_rfl) ?_
        have hS19421 := hS19419.front (.there (.there (.there (.there (.there .here)))))
        have hS19422 := hS19421.front (.there (.there (.there (.there (.there .here)))))
        have hS19423 := hS19422.front (.there (.there (.there (.there (.there .here)))))
        have hS19424 := hS19423.front (.there (.there (.there (.there (.there .here)))))
        have hS19425 := hS19424.front (.there (.there (.there (.there .here))))
        have hS19426 := hS19425.front (.there (.there (.there (.there (.there .here)))))
        exact ⟨_, _, _, _, _, _, _, _, hr19034, hr19026, hS19426, rfl, rfl, rfl, rfl, rfl, rfl, rfl, rfl, rfl, rfl, rfl, rfl, rfl, rfl⟩
      ·cases ho
       refine wl_alloc ty133 rfl hS19342 ?_
       intro b19427 w19428 hS19429
       refine wl_nil ?_
       have hH19430 := hS19429.toHeld.mono (Mem.le_refl _) (List.Sublist.subset (.cons _ (.cons _ (.cons_cons _ (.cons_cons _ (.cons _ (.cons_cons _ (.refl _))))))))
       refine ⟨hH19430, ?_⟩
       refine d_all (rs := [4, 9]) (by kernel_rfl) (by simp) (fun j hj o ho => ?_)
       simp only [List.mem_cons, List.not_mem_nil, or_false] at hj
       rcases hj with rfl | rfl
       ·cases ho
        refine wl_h hS19429.toHeld (r_row ty133 (k := 0) (i := y18910.toNat) (.there (.there (.there (.there .here)))) rfl rfl (row_room hrc18889 hx18967) hes19021 rfl (v := .agg #[.int .i64 _, .slice _ _ _]) rfl) <| wl_nil ?_
        have hH19431 := hS19429.toHeld.mono (Mem.le_refl _) (List.Sublist.subset (.cons _ (.cons _ (.cons_cons _ (.cons_cons _ (.cons _ (.cons_cons _ (.refl _))))))))
        refine ⟨hH19431, ?_⟩
        refine d_all (rs := [9, 12]) (by kernel_rfl) (by simp) (fun j hj o ho => ?_)
        simp only [List.mem_cons, List.not_mem_nil, or_false] at hj
        rcases hj with rfl | rfl
        ·cases ho
         refine wl_h hS19429.toHeld (r_row ty133 (k := 0) (i := y18914.toNat) (.there (.there (.there (.there .here)))) rfl rfl (row_room hrc18889 hx18980) hes19029 rfl (v := .agg #[.int .i64 _, .slice _ _ _]) rfl) <| wl_nil ?_
         have hH19432 := hS19429.toHeld.mono (Mem.le_refl _) (List.Sublist.subset (.cons _ (.cons _ (.cons_cons _ (.cons_cons _ (.cons _ (.cons_cons _ (.refl _))))))))
         refine ⟨hH19432, ?_⟩
         refine d_all (rs := [12]) (by kernel_rfl) (by simp) (fun j hj o ho => ?_)
         obtain rfl : j = 12 := by simpa using hj
         cases ho
         refine wl_store_box ty133 hS19429 rfl (v := .agg #[.int .i64 _, .slice _ _ _]) rfl (vs := [.int .i64 _, .slice _ _ _]) rfl rfl rfl .here (cs' := [.int .i64 _, .slice _ _ _]) rfl rfl ?_
         intro w19433 hS19434
         refine wl_nil ?_
         have hH19435 := hS19434.toHeld.mono (Mem.le_refl _) (List.Sublist.subset (.cons _ (.cons _ (.cons_cons _ (.cons_cons _ (.cons _ (.cons_cons _ (.refl _))))))))
         refine ⟨hH19435, ?_⟩
         refine d_all (rs := [13]) (by kernel_rfl) (by simp) (fun j hj o ho => ?_)
         obtain rfl : j = 13 := by simpa using hj
         cases ho
         refine wl_store_box ty133 hS19434 rfl (v := .agg #[.int .i64 _, .slice _ _ _]) rfl (vs := [.int .i64 _, .slice _ _ _]) rfl rfl rfl (.there .here) (cs' := [.int .i64 _, .slice _ _ _]) rfl rfl ?_
         intro w19436 hS19437
         refine wl_nil ?_
         have hH19438 := hS19437.toHeld.mono (Mem.le_refl _) (List.Sublist.subset (.cons _ (.cons _ (.cons_cons _ (.cons_cons _ (.cons _ (.cons_cons _ (.refl _))))))))
         refine ⟨hH19438, ?_⟩
         refine d_end (by kernel_rfl) ?_
         have hS19439 := hS19437.front (.there (.there (.there (.there (.there .here)))))
         have hS19440 := hS19439.front (.there (.there (.there (.there (.there .here)))))
         have hS19441 := hS19440.front (.there (.there (.there (.there (.there .here)))))
         have hS19442 := hS19441.front (.there (.there (.there (.there (.there .here)))))
         have hS19443 := hS19442.front (.there (.there (.there (.there .here))))
         have hS19444 := hS19443.front (.there (.there (.there (.there (.there .here)))))
         exact ⟨_, _, _, _, _, _, _, _, hr19034, hr19026, hS19444, rfl, rfl, rfl, rfl, rfl, rfl, rfl, rfl, rfl, rfl, rfl, rfl, rfl, rfl⟩
        ·cases ho
         refine wl_store_box ty133 hS19429 rfl (v := .agg #[.int .i64 _, .slice _ _ _]) rfl (vs := [.int .i64 _, .slice _ _ _]) rfl rfl rfl .here (cs' := [.int .i64 _, .slice _ _ _]) rfl rfl ?_
         intro w19445 hS19446
         refine wl_nil ?_
         have hH19447 := hS19446.toHeld.mono (Mem.le_refl _) (List.Sublist.subset (.cons _ (.cons _ (.cons_cons _ (.cons_cons _ (.cons _ (.cons_cons _ (.refl _))))))))
         refine ⟨hH19447, ?_⟩
         refine d_all (rs := [9]) (by kernel_rfl) (by simp) (fun j hj o ho => ?_)
         obtain rfl : j = 9 := by simpa using hj
         cases ho
         refine wl_h hS19446.toHeld (r_row ty133 (k := 0) (i := y18914.toNat) (.there (.there (.there (.there .here)))) rfl rfl (row_room hrc18889 hx18980) hes19029 rfl (v := .agg #[.int .i64 _, .slice _ _ _]) rfl) <| wl_nil ?_
         have hH19448 := hS19446.toHeld.mono (Mem.le_refl _) (List.Sublist.subset (.cons _ (.cons _ (.cons_cons _ (.cons_cons _ (.cons _ (.cons_cons _ (.refl _))))))))
         refine ⟨hH19448, ?_⟩
         refine d_all (rs := [13]) (by kernel_rfl) (by simp) (fun j hj o ho => ?_)
         obtain rfl : j = 13 := by simpa using hj
         cases ho
         refine wl_store_box ty133 hS19446 rfl (v := .agg #[.int .i64 _, .slice _ _ _]) rfl (vs := [.int .i64 _, .slice _ _ _]) rfl rfl rfl (.there .here) (cs' := [.int .i64 _, .slice _ _ _]) rfl rfl ?_
         intro w19449 hS19450
         refine wl_nil ?_
         have hH19451 := hS19450.toHeld.mono (Mem.le_refl _) (List.Sublist.subset (.cons _ (.cons _ (.cons_cons _ (.cons_cons _ (.cons _ (.cons_cons _ (.refl _))))))))
         refine ⟨hH19451, ?_⟩
         refine d_end (by kernel_rfl) ?_
         have hS19452 := hS19450.front (.there (.there (.there (.there (.there .here)))))
         have hS19453 := hS19452.front (.there (.there (.there (.there (.there .here)))))
         have hS19454 := hS19453.front (.there (.there (.there (.there (.there .here)))))
         have hS19455 := hS19454.front (.there (.there (.there (.there (.there .here)))))
         have hS19456 := hS19455.front (.there (.there (.there (.there .here))))
         have hS19457 := hS19456.front (.there (.there (.there (.there (.there .here)))))
         exact ⟨_, _, _, _, _, _, _, _, hr19034, hr19026, hS19457, rfl, rfl, rfl, rfl, rfl, rfl, rfl, rfl, rfl, rfl, rfl, rfl, rfl, rfl⟩
       ·cases ho
        refine wl_h hS19429.toHeld (r_row ty133 (k := 0) (i := y18914.toNat) (.there (.there (.there (.there .here)))) rfl rfl (row_room hrc18889 hx18980) hes19029 rfl (v := .agg #[.int .i64 _, .slice _ _ _]) rfl) <| wl_nil ?_
        have hH19458 := hS19429.toHeld.mono (Mem.le_refl _) (List.Sublist.subset (.cons _ (.cons _ (.cons_cons _ (.cons_cons _ (.cons _ (.cons_cons _ (.refl _))))))))
        refine ⟨hH19458, ?_⟩
        refine d_all (rs := [4]) (by kernel_rfl) (by simp) (fun j hj o ho => ?_)
        obtain rfl : j = 4 := by simpa using hj
        cases ho
        refine wl_h hS19429.toHeld (r_row ty133 (k := 0) (i := y18910.toNat) (.there (.there (.there (.there .here)))) rfl rfl (row_room hrc18889 hx18967) hes19021 rfl (v := .agg #[.int .i64 _, .slice _ _ _]) rfl) <| wl_nil ?_
        have hH19459 := hS19429.toHeld.mono (Mem.le_refl _) (List.Sublist.subset (.cons _ (.cons _ (.cons_cons _ (.cons_cons _ (.cons _ (.cons_cons _ (.refl _))))))))
        refine ⟨hH19459, ?_⟩
        refine d_all (rs := [12]) (by kernel_rfl) (by simp) (fun j hj o ho => ?_)
        obtain rfl : j = 12 := by simpa using hj
        cases ho
        refine wl_store_box ty133 hS19429 rfl (v := .agg #[.int .i64 _, .slice _ _ _]) rfl (vs := [.int .i64 _, .slice _ _ _]) rfl rfl rfl .here (cs' := [.int .i64 _, .slice _ _ _]) rfl rfl ?_
        intro w19460 hS19461
        refine wl_nil ?_
        have hH19462 := hS19461.toHeld.mono (Mem.le_refl _) (List.Sublist.subset (.cons _ (.cons _ (.cons_cons _ (.cons_cons _ (.cons _ (.cons_cons _ (.refl _))))))))
        refine ⟨hH19462, ?_⟩
        refine d_all (rs := [13]) (by kernel_rfl) (by simp) (fun j hj o ho => ?_)
        obtain rfl : j = 13 := by simpa using hj
        cases ho
        refine wl_store_box ty133 hS19461 rfl (v := .agg #[.int .i64 _, .slice _ _ _]) rfl (vs := [.int .i64 _, .slice _ _ _]) rfl rfl rfl (.there .here) (cs' := [.int .i64 _, .slice _ _ _]) rfl rfl ?_
        intro w19463 hS19464
        refine wl_nil ?_
        have hH19465 := hS19464.toHeld.mono (Mem.le_refl _) (List.Sublist.subset (.cons _ (.cons _ (.cons_cons _ (.cons_cons _ (.cons _ (.cons_cons _ (.refl _))))))))
        refine ⟨hH19465, ?_⟩
        refine d_end (by kernel_rfl) ?_
        have hS19466 := hS19464.front (.there (.there (.there (.there (.there .here)))))
        have hS19467 := hS19466.front (.there (.there (.there (.there (.there .here)))))
        have hS19468 := hS19467.front (.there (.there (.there (.there (.there .here)))))
        have hS19469 := hS19468.front (.there (.there (.there (.there (.there .here)))))
        have hS19470 := hS19469.front (.there (.there (.there (.there .here))))
        have hS19471 := hS19470.front (.there (.there (.there (.there (.there .here)))))
        exact ⟨_, _, _, _, _, _, _, _, hr19034, hr19026, hS19471, rfl, rfl, rfl, rfl, rfl, rfl, rfl, rfl, rfl, rfl, rfl, rfl, rfl, rfl⟩
    ·rintro f19487 w19488 ⟨a19007, n19008, c19009, b19011, a19012, n19013, c19014, b19016, ho19010, ho19015, hS19472, e19473, e19474, e19475, e19476, e19477, e19478, e19479, e19480, e19481, e19482, e19483, e19484, e19485, e19486⟩
     obtain rfl := (ROp.rsl ho19010).1
     obtain rfl := (ROp.rsl ho19015).1
     refine c_know (t := 2) e19473 <| c_know (t := 5) e19474 <| c_know (t := 6) e19475 <| c_know (t := 7) e19476 <| c_know (t := 9) e19477 ?_
     refine c_know (t := 10) e19478 <| c_know (t := 11) e19479 <| c_know (t := 25) e19480 <| c_know (t := 26) e19481 <| c_know (t := 29) e19482 ?_
     refine c_know (t := 30) e19483 <| c_know (t := 31) e19484 <| c_know (t := 46) e19485 <| c_know (t := 47) e19486 ?_
     clear e19473 e19474 e19475 e19476 e19477 e19478 e19479 e19480 e19481 e19482 e19483 e19484 e19485 e19486
     refine c_seq <| c_region <| wl_h hS19472.toHeld (r_fieldAddr fld133_1 (b := _) (o := _) rfl) <| wl_h hS19472.toHeld (r_box ty35 (k := 1) (.there .here) rfl rfl rfl (v := .slice _ _ _) rfl) <| wl_h hS19472.toHeld (r_nil_neqO Try.underlying35 rfl rfl (ROp.isSome ho19015)) ?_
     refine wl_h hS19472.toHeld (r_move (v := .bool _) rfl) <| wl_split rfl (c := _) (t := 63) (fun h19489 => ?_) (fun h19489 => ?_)
     ·replace hM := bif_t h19489 hM
      refine wl_on (t := 63) rfl rfl ?_
      refine wl_h hS19472.toHeld (r_fieldAddr fld133_1 (b := _) (o := _) rfl) <| wl_on (t := 63) rfl rfl ?_
      refine wl_h hS19472.toHeld (r_box ty35 (k := 1) .here rfl rfl rfl (v := .slice _ _ _) rfl) <| wl_on (t := 63) rfl rfl ?_
      refine wl_h hS19472.toHeld (r_nil_eqlO Try.underlying35 rfl rfl (ROp.isNone ho19010)) <| wl_on (t := 63) rfl rfl ?_
      refine wl_h hS19472.toHeld (r_move (v := .bool _) rfl) <| wl_split rfl (c := _) (t := 67) (fun h19490 => ?_) (fun h19490 => ?_)
      ·replace hM := bif_t h19490 hM
       refine wl_off (t := 67) (b := true) rfl rfl rfl ?_
       refine wl_off (t := 67) (b := true) rfl rfl rfl ?_
       refine wl_off (t := 67) (b := true) rfl rfl rfl ?_
       refine wl_off (t := 67) (b := true) rfl rfl rfl ?_
       refine wl_off (t := 67) (b := true) rfl rfl rfl ?_
       refine wl_off (t := 67) (b := true) rfl rfl rfl ?_
       refine wl_off (t := 67) (b := true) rfl rfl rfl ?_
       refine wl_off (t := 67) (b := true) rfl rfl rfl ?_
       refine wl_on (t := 63) rfl rfl ?_
       refine wl_h hS19472.toHeld (r_pick_t rfl (v := .bool _) rfl) <| wl_h hS19472.toHeld (r_pick_t rfl (v := .bool _) rfl) <| wl_nil <| c_true rfl <| c_seq <| c_region <| wl_h hS19472.toHeld (r_fieldAddr fld133_1 (b := _) (o := _) rfl) ?_
       refine wl_h hS19472.toHeld (r_box ty35 (k := 1) (.there .here) rfl rfl rfl (v := .slice _ _ _) rfl) ?_
       have hr19491 := ROp.rsl ho19015
       obtain ⟨r19492, hq19493, hM⟩ := bnd_ok hM
       refine wl_call ent20 (vals := [.slice _ _ _]) rfl (cg20 hS19472 hr19491 hq19493) ?_
       rintro _ w19501 ⟨a19495, n19496, c19497, cs19498, rfl, rfl, hrc19499, hS19502⟩
       refine wl_h hS19502.toHeld (r_assign (v := .slice _ _ _) rfl) <| wl_nil <| c_seq <| c_region <| wl_h hS19502.toHeld (r_move (v := .slice _ _ _) rfl) ?_
       refine wl_h hS19502.toHeld (r_move (v := .int .i64 _) rfl) ?_
       obtain ⟨x19503, hx19504, h19505, h19506, hM⟩ := getK_ok hM
       obtain ⟨b19507, rfl⟩ := row_some (hS19502.toHeld.own .here) hrc19499 (by decide) h19505 h19506
       obtain ⟨es19508, hes19509, hR19510⟩ := row_read hrc19499 hx19504
       obtain rfl := hR19510
       refine wl_h hS19502.toHeld (r_indexAddr Try.underlying35 ty3 (b := _) (o := _) (n := _) (c := _) (i := x17393) rfl rfl h19505 (row_lt (hS19502.toHeld.own .here) hrc19499 (by decide) h19506)) <| wl_h hS19502.toHeld (r_row ty3 (k := 0) (i := x17393.toNat) .here rfl rfl (row_room hrc19499 hx19504) hes19509 rfl (v := .int .i64 _) rfl) ?_
       obtain ⟨hc19511, hM⟩ := chk_ok hM
       refine wl_h hS19502.toHeld (r_add (a := _) (b := _) rfl rfl (ok_lo hc19511) (ok_hi hc19511)) ?_
       obtain ⟨x19512, hx19513, h19514, h19515, hM⟩ := getK_ok hM
       obtain ⟨es19516, hes19517, hR19518⟩ := row_read hrc19499 hx19513
       obtain rfl := hR19518
       refine wl_h hS19502.toHeld (r_indexAddr Try.underlying35 ty3 (b := _) (o := _) (n := _) (c := _) (i := x17393) rfl rfl h19514 (row_lt (hS19502.toHeld.own .here) hrc19499 (by decide) h19515)) <| wl_store_row ty3 hS19502 rfl (v := .int .i64 _) rfl (vs := [.int .i64 _]) rfl rfl rfl .here (Nat.le_trans (by simp only [Nat.zero_add]; omega) (row_room hrc19499 hx19513)) ?_
       intro w19519 hS19520
       have hrc19521 := RCs.seti hrc19499 hx19513 (vs := [.int .i64 (x19503 + 1)]) (y := x19503 + 1) rfl rfl
       generalize spl cs19498 (0 + x17393.toNat * 1) [.int .i64 (x19503 + 1)] = cs19522 at hS19520 hrc19521
       refine wl_nil <| c_region <| wl_h hS19520.toHeld (r_move (v := .slice _ _ _) rfl) <| wl_h hS19520.toHeld (r_indexAddr_arr Try.underlying149 ty3 (n := 2) (b := _) (o := _) (i := 1) rfl rfl (by decide) (by decide)) <| wl_h hS19520.toHeld (r_box ty3 (k := 1) (.there (.there (.there .here))) rfl rfl rfl (v := .int .i64 _) rfl) ?_
       refine wl_h hS19520.toHeld (r_fieldAddr fld133_0 (b := _) (o := _) rfl) <| wl_h hS19520.toHeld (r_box ty3 (k := 0) (.there (.there .here)) rfl rfl rfl (v := .int .i64 _) rfl) <| wl_h hS19520.toHeld (r_fieldAddr fld106_2 (b := _) (o := _) rfl) <| wl_h hS19520.toHeld (r_box ty3 (k := 2) (.there (.there (.there (.there .here)))) rfl rfl rfl (v := .int .i64 _) rfl) ?_
       obtain ⟨hc19523, hM⟩ := chk_ok hM
       refine wl_h hS19520.toHeld (r_add (a := _) (b := _) rfl rfl (ok_lo hc19523) (ok_hi hc19523)) <| wl_h hS19520.toHeld (r_move (v := .slice _ _ _) rfl) <| wl_h hS19520.toHeld (r_build ty133 st133 (ps := [(0, [.int .i64 _]), (1, [.slice _ _ _])]) rfl rfl (cs := [.int .i64 _, .slice _ _ _]) rfl) ?_
       obtain ⟨x19524, hx19525, h19526, h19527, hM⟩ := getK_ok hM
       obtain ⟨b19528, rfl⟩ := row_some (hS19520.toHeld.own (.there (.there (.there (.there (.there .here)))))) hrc18889 (by decide) h19526 h19527
       obtain ⟨es19529, hes19530, hR19531⟩ := row_read hrc18889 hx19525
       have hk19536 := hR19531
       obtain ⟨a19532, n19533, c19534, rfl, hr19535⟩ := hR19531
       obtain rfl := (ROp.rsl hr19535).1
       refine wl_h hS19520.toHeld (r_indexAddr Try.underlying129 ty133 (b := _) (o := _) (n := _) (c := _) (i := y18914) rfl rfl h19526 (row_lt (hS19520.toHeld.own (.there (.there (.there (.there (.there .here)))))) hrc18889 (by decide) h19527)) ?_
       obtain ⟨m19537, hm19538, hS19539, hr19540⟩ := hS19520.freezeR .here hrc19521 RInt.mono (by decide)
       have le19542 := Mem.le_trans le18878 hm19538
       have le19543 := Mem.le_trans le18879 hm19538
       have le19544 := Mem.le_trans le18880 hm19538
       have le19545 := Mem.le_trans le18881 hm19538
       have le19546 := hm19538
       replace hk8 := RRound.mono _ _ _ _ hk8 hm19538
       replace hr7 := RSl.mono RStreet.mono hr7 hm19538
       replace hrc18 := RCs.mono RWayR.mono hrc18 hm19538
       replace hrc24 := RCs.mono RInt.mono hrc24 hm19538
       replace hk36 := RWayR.mono _ _ _ _ hk36 hm19538
       replace hr35 := ROp.mono RInt.mono hr35 hm19538
       replace hr40 := RSl.mono RInt.mono hr40 hm19538
       replace ho45 := ROp.mono RInt.mono ho45 hm19538
       replace hrc47 := RCs.mono RWayR.mono hrc47 hm19538
       replace hrc12946 := RCs.mono RWayR.mono hrc12946 hm19538
       replace hrc17400 := RCs.mono RWayR.mono hrc17400 hm19538
       replace hI17420 := Imm.mono hI17420 hm19538
       replace hrc18889 := RCs.mono RWayR.mono hrc18889 hm19538
       replace ho19010 := ROp.mono RInt.mono ho19010 hm19538
       replace ho19015 := ROp.mono RInt.mono ho19015 hm19538
       replace hr19491 := RSl.mono RInt.mono hr19491 hm19538
       replace hrc19499 := RCs.mono RInt.mono hrc19499 hm19538
       replace hrc19521 := RCs.mono RInt.mono hrc19521 hm19538
       replace hk19536 := RWayR.mono _ _ _ _ hk19536 hm19538
       replace hr19535 := ROp.mono RInt.mono hr19535 hm19538
       obtain ⟨hc19548, hM⟩ := chk_ok hM
       have ho19549 := ROp.some hr19540 hc19548
       refine wl_store_row ty133 hS19539 rfl (v := .agg #[.int .i64 _, .slice _ _ _]) rfl (vs := [.int .i64 _, .slice _ _ _]) rfl rfl rfl (.there (.there (.there (.there .here)))) (Nat.le_trans (by simp only [Nat.zero_add]; omega) (row_room hrc18889 hx19525)) ?_
       intro w19547 hS19550
       have hrc19551 := RCs.seti hrc18889 hx19525 (vs := [.int .i64 (x18966.length + x17413.length), .slice (some ⟨b19507, 0, none⟩) r19492.length c19497]) (y := (⟨x18966.length + x17413.length, (some ((r19492.set x17393.toNat (x19503 + 1)) : List Int))⟩ : WayR)) rfl ⟨_, _, _, rfl, ho19549⟩
       generalize spl cs18887 (0 + y18914.toNat * 2) [.int .i64 (x18966.length + x17413.length), .slice (some ⟨b19507, 0, none⟩) r19492.length c19497] = cs19552 at hS19550 hrc19551
       refine wl_nil <| c_nil <| q_norm <| c_region ?_
       obtain ⟨hc19553, hM⟩ := chk_ok hM
       refine wl_h hS19550.toHeld (r_add (a := _) (b := _) rfl rfl (ok_lo hc19553) (ok_hi hc19553)) <| wl_h hS19550.toHeld (r_move (v := .int .i64 _) rfl) <| wl_nil <| c_nil <| q_loop ?_
       have hS19554 := hS19550.weaken (.cons _ (.cons _ (.cons _ (.cons_cons _ (.cons_cons _ (.cons_cons _ (.refl _)))))))
       exact ⟨k_2, Nat.lt_succ_self _, x18882 + 1, (l18883.set y18914.toNat (⟨x18966.length + x17413.length, (some ((r19492.set x17393.toNat (x19503 + 1)) : List Int))⟩ : WayR)), m19537, (some ⟨b19528, 0, none⟩), l18883.length, c18886, cs19552, hM, le19545, row_n (hS19554.toHeld.own (.there .here)) hrc19551 (by decide), hrc19551, hS19554, rfl, rfl, rfl, rfl, rfl, rfl, rfl, rfl, rfl, rfl, rfl⟩
      ·replace hM := bif_f h19490 hM
       refine wl_on (t := 67) rfl rfl ?_
       refine wl_h hS19472.toHeld (r_fieldAddr fld133_0 (b := _) (o := _) rfl) <| wl_on (t := 67) rfl rfl ?_
       refine wl_h hS19472.toHeld (r_box ty3 (k := 0) (.there .here) rfl rfl rfl (v := .int .i64 _) rfl) <| wl_on (t := 67) rfl rfl ?_
       refine wl_h hS19472.toHeld (r_fieldAddr fld106_2 (b := _) (o := _) rfl) <| wl_on (t := 67) rfl rfl ?_
       refine wl_h hS19472.toHeld (r_box ty3 (k := 2) (.there (.there (.there .here))) rfl rfl rfl (v := .int .i64 _) rfl) <| wl_on (t := 67) rfl rfl ?_
       obtain ⟨hc19555, hM⟩ := chk_ok hM
       refine wl_h hS19472.toHeld (r_add (a := _) (b := _) rfl rfl (ok_lo hc19555) (ok_hi hc19555)) <| wl_on (t := 67) rfl rfl ?_
       refine wl_h hS19472.toHeld (r_fieldAddr fld133_0 (b := _) (o := _) rfl) <| wl_on (t := 67) rfl rfl ?_
       refine wl_h hS19472.toHeld (r_box ty3 (k := 0) .here rfl rfl rfl (v := .int .i64 _) rfl) <| wl_on (t := 67) rfl rfl ?_
       refine wl_h hS19472.toHeld (r_lss (a := _) (b := _) rfl rfl) <| wl_on (t := 63) rfl rfl ?_
       refine wl_h hS19472.toHeld (r_pick_f rfl (v := .bool _) rfl) <| wl_h hS19472.toHeld (r_pick_t rfl (v := .bool _) rfl) <| wl_nil <| c_cond (c := _) rfl (fun h19556 => ?_) (fun h19556 => ?_)
       ·replace hM := bif_t h19556 hM
        refine c_seq <| c_region <| wl_h hS19472.toHeld (r_fieldAddr fld133_1 (b := _) (o := _) rfl) <| wl_h hS19472.toHeld (r_box ty35 (k := 1) (.there .here) rfl rfl rfl (v := .slice _ _ _) rfl) ?_
        have hr19557 := ROp.rsl ho19015
        obtain ⟨r19558, hq19559, hM⟩ := bnd_ok hM
        refine wl_call ent20 (vals := [.slice _ _ _]) rfl (cg20 hS19472 hr19557 hq19559) ?_
        rintro _ w19567 ⟨a19561, n19562, c19563, cs19564, rfl, rfl, hrc19565, hS19568⟩
        refine wl_h hS19568.toHeld (r_assign (v := .slice _ _ _) rfl) <| wl_nil <| c_seq <| c_region <| wl_h hS19568.toHeld (r_move (v := .slice _ _ _) rfl) ?_
        refine wl_h hS19568.toHeld (r_move (v := .int .i64 _) rfl) ?_
        obtain ⟨x19569, hx19570, h19571, h19572, hM⟩ := getK_ok hM
        obtain ⟨b19573, rfl⟩ := row_some (hS19568.toHeld.own .here) hrc19565 (by decide) h19571 h19572
        obtain ⟨es19574, hes19575, hR19576⟩ := row_read hrc19565 hx19570
        obtain rfl := hR19576
        refine wl_h hS19568.toHeld (r_indexAddr Try.underlying35 ty3 (b := _) (o := _) (n := _) (c := _) (i := x17393) rfl rfl h19571 (row_lt (hS19568.toHeld.own .here) hrc19565 (by decide) h19572)) <| wl_h hS19568.toHeld (r_row ty3 (k := 0) (i := x17393.toNat) .here rfl rfl (row_room hrc19565 hx19570) hes19575 rfl (v := .int .i64 _) rfl) ?_
        obtain ⟨hc19577, hM⟩ := chk_ok hM
        refine wl_h hS19568.toHeld (r_add (a := _) (b := _) rfl rfl (ok_lo hc19577) (ok_hi hc19577)) ?_
        obtain ⟨x19578, hx19579, h19580, h19581, hM⟩ := getK_ok hM
        obtain ⟨es19582, hes19583, hR19584⟩ := row_read hrc19565 hx19579
        obtain rfl := hR19584
        refine wl_h hS19568.toHeld (r_indexAddr Try.underlying35 ty3 (b := _) (o := _) (n := _) (c := _) (i := x17393) rfl rfl h19580 (row_lt (hS19568.toHeld.own .here) hrc19565 (by decide) h19581)) <| wl_store_row ty3 hS19568 rfl (v := .int .i64 _) rfl (vs := [.int .i64 _]) rfl rfl rfl .here (Nat.le_trans (by simp only [Nat.zero_add]; omega) (row_room hrc19565 hx19579)) ?_
        intro w19585 hS19586
        have hrc19587 := RCs.seti hrc19565 hx19579 (vs := [.int .i64 (x19569 + 1)]) (y := x19569 + 1) rfl rfl
        generalize spl cs19564 (0 + x17393.toNat * 1) [.int .i64 (x19569 + 1)] = cs19588 at hS19586 hrc19587
        refine wl_nil <| c_region <| wl_h hS19586.toHeld (r_move (v := .slice _ _ _) rfl) <| wl_h hS19586.toHeld (r_indexAddr_arr Try.underlying149 ty3 (n := 2) (b := _) (o := _) (i := 1) rfl rfl (by decide) (by decide)) <| wl_h hS19586.toHeld (r_box ty3 (k := 1) (.there (.there (.there .here))) rfl rfl rfl (v := .int .i64 _) rfl) ?_
        refine wl_h hS19586.toHeld (r_fieldAddr fld133_0 (b := _) (o := _) rfl) <| wl_h hS19586.toHeld (r_box ty3 (k := 0) (.there (.there .here)) rfl rfl rfl (v := .int .i64 _) rfl) <| wl_h hS19586.toHeld (r_fieldAddr fld106_2 (b := _) (o := _) rfl) <| wl_h hS19586.toHeld (r_box ty3 (k := 2) (.there (.there (.there (.there .here)))) rfl rfl rfl (v := .int .i64 _) rfl) ?_
        obtain ⟨hc19589, hM⟩ := chk_ok hM
        refine wl_h hS19586.toHeld (r_add (a := _) (b := _) rfl rfl (ok_lo hc19589) (ok_hi hc19589)) <| wl_h hS19586.toHeld (r_move (v := .slice _ _ _) rfl) <| wl_h hS19586.toHeld (r_build ty133 st133 (ps := [(0, [.int .i64 _]), (1, [.slice _ _ _])]) rfl rfl (cs := [.int .i64 _, .slice _ _ _]) rfl) ?_
        obtain ⟨x19590, hx19591, h19592, h19593, hM⟩ := getK_ok hM
        obtain ⟨b19594, rfl⟩ := row_some (hS19586.toHeld.own (.there (.there (.there (.there (.there .here)))))) hrc18889 (by decide) h19592 h19593
        obtain ⟨es19595, hes19596, hR19597⟩ := row_read hrc18889 hx19591
        have hk19602 := hR19597
        obtain ⟨a19598, n19599, c19600, rfl, hr19601⟩ := hR19597
        obtain rfl := (ROp.rsl hr19601).1
        refine wl_h hS19586.toHeld (r_indexAddr Try.underlying129 ty133 (b := _) (o := _) (n := _) (c := _) (i := y18914) rfl rfl h19592 (row_lt (hS19586.toHeld.own (.there (.there (.there (.there (.there .here)))))) hrc18889 (by decide) h19593)) ?_
        obtain ⟨m19603, hm19604, hS19605, hr19606⟩ := hS19586.freezeR .here hrc19587 RInt.mono (by decide)
        have le19608 := Mem.le_trans le18878 hm19604
        have le19609 := Mem.le_trans le18879 hm19604
        have le19610 := Mem.le_trans le18880 hm19604
        have le19611 := Mem.le_trans le18881 hm19604
        have le19612 := hm19604
        replace hk8 := RRound.mono _ _ _ _ hk8 hm19604
        replace hr7 := RSl.mono RStreet.mono hr7 hm19604
        replace hrc18 := RCs.mono RWayR.mono hrc18 hm19604
        replace hrc24 := RCs.mono RInt.mono hrc24 hm19604
        replace hk36 := RWayR.mono _ _ _ _ hk36 hm19604
        replace hr35 := ROp.mono RInt.mono hr35 hm19604
        replace hr40 := RSl.mono RInt.mono hr40 hm19604
        replace ho45 := ROp.mono RInt.mono ho45 hm19604
        replace hrc47 := RCs.mono RWayR.mono hrc47 hm19604
        replace hrc12946 := RCs.mono RWayR.mono hrc12946 hm19604
        replace hrc17400 := RCs.mono RWayR.mono hrc17400 hm19604
        replace hI17420 := Imm.mono hI17420 hm19604
        replace hrc18889 := RCs.mono RWayR.mono hrc18889 hm19604
        replace ho19010 := ROp.mono RInt.mono ho19010 hm19604
        replace ho19015 := ROp.mono RInt.mono ho19015 hm19604
        replace hr19557 := RSl.mono RInt.mono hr19557 hm19604
        replace hrc19565 := RCs.mono RInt.mono hrc19565 hm19604
        replace hrc19587 := RCs.mono RInt.mono hrc19587 hm19604
        replace hk19602 := RWayR.mono _ _ _ _ hk19602 hm19604
        replace hr19601 := ROp.mono RInt.mono hr19601 hm19604
        obtain ⟨hc19614, hM⟩ := chk_ok hM
        have ho19615 := ROp.some hr19606 hc19614
        refine wl_store_row ty133 hS19605 rfl (v := .agg #[.int .i64 _, .slice _ _ _]) rfl (vs := [.int .i64 _, .slice _ _ _]) rfl rfl rfl (.there (.there (.there (.there .here)))) (Nat.le_trans (by simp only [Nat.zero_add]; omega) (row_room hrc18889 hx19591)) ?_
        intro w19613 hS19616
        have hrc19617 := RCs.seti hrc18889 hx19591 (vs := [.int .i64 (x18966.length + x17413.length), .slice (some ⟨b19573, 0, none⟩) r19558.length c19563]) (y := (⟨x18966.length + x17413.length, (some ((r19558.set x17393.toNat (x19569 + 1)) : List Int))⟩ : WayR)) rfl ⟨_, _, _, rfl, ho19615⟩
        generalize spl cs18887 (0 + y18914.toNat * 2) [.int .i64 (x18966.length + x17413.length), .slice (some ⟨b19573, 0, none⟩) r19558.length c19563] = cs19618 at hS19616 hrc19617
        refine wl_nil <| c_nil <| q_norm <| c_region ?_
        obtain ⟨hc19619, hM⟩ := chk_ok hM
        refine wl_h hS19616.toHeld (r_add (a := _) (b := _) rfl rfl (ok_lo hc19619) (ok_hi hc19619)) <| wl_h hS19616.toHeld (r_move (v := .int .i64 _) rfl) <| wl_nil <| c_nil <| q_loop ?_
        have hS19620 := hS19616.weaken (.cons _ (.cons _ (.cons _ (.cons_cons _ (.cons_cons _ (.cons_cons _ (.refl _)))))))
        exact ⟨k_2, Nat.lt_succ_self _, x18882 + 1, (l18883.set y18914.toNat (⟨x18966.length + x17413.length, (some ((r19558.set x17393.toNat (x19569 + 1)) : List Int))⟩ : WayR)), m19603, (some ⟨b19594, 0, none⟩), l18883.length, c18886, cs19618, hM, le19611, row_n (hS19620.toHeld.own (.there .here)) hrc19617 (by decide), hrc19617, hS19620, rfl, rfl, rfl, rfl, rfl, rfl, rfl, rfl, rfl, rfl, rfl⟩
       ·replace hM := bif_f h19556 hM
        refine c_skip <| c_nil <| q_norm <| c_region ?_
        obtain ⟨hc19621, hM⟩ := chk_ok hM
        refine wl_h hS19472.toHeld (r_add (a := _) (b := _) rfl rfl (ok_lo hc19621) (ok_hi hc19621)) <| wl_h hS19472.toHeld (r_move (v := .int .i64 _) rfl) <| wl_nil <| c_nil <| q_loop ?_
        have hS19622 := hS19472.weaken (.cons _ (.cons _ (.cons _ (.cons_cons _ (.cons_cons _ (.cons_cons _ (.refl _)))))))
        exact ⟨k_2, Nat.lt_succ_self _, x18882 + 1, l18883, m18876, a18884, l18883.length, c18886, cs18887, hM, le18881, row_n (hS19622.toHeld.own (.there .here)) hrc18889 (by decide), hrc18889, hS19622, rfl, rfl, rfl, rfl, rfl, rfl, rfl, rfl, rfl, rfl, rfl⟩
     ·replace hM := bif_f h19489 hM
      refine wl_off (t := 63) (b := false) rfl rfl rfl ?_
      refine wl_off (t := 63) (b := false) rfl rfl rfl ?_
      refine wl_off (t := 63) (b := false) rfl rfl rfl ?_
      refine wl_off (t := 63) (b := false) rfl rfl rfl ?_
      refine wl_none (t := 67) rfl rfl ?_
      refine wl_none (t := 67) rfl rfl ?_
      refine wl_none (t := 67) rfl rfl ?_
      refine wl_none (t := 67) rfl rfl ?_
      refine wl_none (t := 67) rfl rfl ?_
      refine wl_none (t := 67) rfl rfl ?_
      refine wl_none (t := 67) rfl rfl ?_
      refine wl_none (t := 67) rfl rfl ?_
      refine wl_off (t := 63) (b := false) rfl rfl rfl ?_
      refine wl_h hS19472.toHeld (r_pick_f rfl (v := .bool _) rfl) <| wl_nil <| c_false rfl <| c_skip <| c_nil <| q_norm <| c_region ?_
      obtain ⟨hc19623, hM⟩ := chk_ok hM
      refine wl_h hS19472.toHeld (r_add (a := _) (b := _) rfl rfl (ok_lo hc19623) (ok_hi hc19623)) <| wl_h hS19472.toHeld (r_move (v := .int .i64 _) rfl) <| wl_nil <| c_nil <| q_loop ?_
      have hS19624 := hS19472.weaken (.cons _ (.cons _ (.cons _ (.cons_cons _ (.cons_cons _ (.cons_cons _ (.refl _)))))))
      exact ⟨k_2, Nat.lt_succ_self _, x18882 + 1, l18883, m18876, a18884, l18883.length, c18886, cs18887, hM, le18881, row_n (hS19624.toHeld.own (.there .here)) hrc18889 (by decide), hrc18889, hS19624, rfl, rfl, rfl, rfl, rfl, rfl, rfl, rfl, rfl, rfl, rfl⟩
   ·replace hM := bif_f h18905 hM
    refine c_exit <| q_loopx <| q_hit <| c_nil <| q_norm <| c_region ?_
    obtain ⟨hc19625, hM⟩ := chk_ok hM
    refine wl_h hS18893.toHeld (r_add (a := _) (b := _) rfl rfl (ok_lo hc19625) (ok_hi hc19625)) <| wl_h hS18893.toHeld (r_move (v := .int .i64 _) rfl) <| wl_nil <| c_nil <| q_loop ?_
    have hS19626 := hS18893.weaken (.cons _ (.cons_cons _ (.cons_cons _ (.refl _))))
    exact ⟨k_1, Nat.lt_succ_self _, x17393 + 1, l18883, m18876, a18884, l18883.length, c18886, cs18887, hM, le18880, row_n (hS19626.toHeld.own .here) hrc18889 (by decide), hrc18889, hS19626, rfl, rfl, rfl, rfl, rfl, rfl, rfl⟩
  ·replace hM := bif_f h17412 hM
   refine c_exit <| q_loopx <| q_hit <| c_nil <| q_norm <| c_region ?_
   obtain ⟨hc19627, hM⟩ := chk_ok hM
   refine wl_h hS17404.toHeld (r_add (a := _) (b := _) rfl rfl (ok_lo hc19627) (ok_hi hc19627)) <| wl_h hS17404.toHeld (r_move (v := .int .i64 _) rfl) <| wl_nil <| c_nil <| q_loop ?_
   exact ⟨k_0, Nat.lt_succ_self _, x12939 + 1, l17394, m17388, a17395, l17394.length, c17397, cs17398, hM, le17391, row_n (hS17404.toHeld.own .here) hrc17400 (by decide), hrc17400, hS17404, rfl, rfl, rfl, rfl⟩
 ·replace hM := bif_f h12955 hM
  refine c_exit <| q_loopx <| q_hit <| c_seq <| c_region <| wl_h hS12950.toHeld (r_move (v := .slice _ _ _) rfl) ?_
  refine wl_h hS12950.toHeld (r_assign (v := .slice _ _ _) rfl) <| wl_nil <| c_ret <| ret_tmp (t := 4) rfl (v := .slice _ _ _) rfl ?_
  obtain rfl := some_eq hM
  have hS19628 := hS12950.weaken (.cons_cons _ (.cons _ (.refl _)))
  exact ⟨m12935, a12941, l12940.length, c12943, cs12944, rfl, le12937, row_n (hS19628.toHeld.own .here) hrc12946 (by decide), hrc12946, hS19628⟩

theorem cg76 {m : Mem} {L : List Atom} {w : World} {a1 : Option Addr} {n2 c3 : Nat} {t5 : List Int} {set6 : Int} (hS : St w m L) (hr4 : RSl 1 RInt m a1 n2 c3 t5) {fuel : Nat} {r : Int} (hM : mg76 fuel t5 set6 = some r) : Calls P0 76 [.slice a1 n2 c3, .int .i64 set6].toArray w (Ret fun v w' => v = .int .i64 r ∧ St w' m (L)) := by
 rw [mg76] at hM
 obtain rfl := hr4.1
 refine enter Try.func76 rfl Try.ntmps76 (Nat.le_of_ble_eq_true rfl) ?_
 refine c_seq <| c_region <| wl_h hS.toHeld (r_assign (v := .int .i64 _) rfl) <| wl_nil <| c_seq <| c_region <| wl_h hS.toHeld (r_move (v := .slice _ _ _) rfl) ?_
 refine wl_h hS.toHeld (r_move (v := .int .i64 _) rfl) ?_
 obtain ⟨x7, hx8, h9, h10, hM⟩ := getK_ok hM
 obtain ⟨b11, o12, rfl⟩ := RSl.elem_a hr4 hx8
 obtain ⟨cs13, hI14, hR15⟩ := RSl.elem_at hr4 hx8
 obtain rfl := hR15
 refine wl_h hS.toHeld (r_indexAddr Try.underlying131 ty3 (b := _) (o := _) (n := _) (c := _) (i := set6) rfl rfl h9 (RSl.lt hr4 h10)) <| wl_h hS.toHeld (r_imm ty3 (k := 0) hI14 rfl rfl rfl (v := .int .i64 _) rfl) <| wl_h hS.toHeld (r_assign (v := .int .i64 _) rfl) <| wl_nil <| c_ret <| ret_tmp (t := 4) rfl (v := .int .i64 _) rfl ?_
 obtain rfl := some_eq hM
 exact ⟨rfl, hS⟩

end Go.Proofs.Ytdhhimfcjoclfaa
