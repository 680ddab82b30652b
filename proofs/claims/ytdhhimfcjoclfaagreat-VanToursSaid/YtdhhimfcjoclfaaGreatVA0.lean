import Derived.Test.YtdhhimfcjoclfaaGreatF
import Derived.Test.YtdhhimfcjoclfaaGreatVM
import Derived.Test.YtdhhimfcjoclfaaGreatKN
import Derived.Test.YtdhhimfcjoclfaaGreatSh
set_option linter.unusedVariables false
set_option linter.unusedSimpArgs false
set_option maxRecDepth 100000
namespace Go.Proofs.YtdhhimfcjoclfaaGreat
open Go Go.K Go.V Go.Proofs
attribute [local irreducible] Calls
theorem cg113 {m : Mem} {L : List Atom} {w : World} {a : Option Addr} {n c : Nat} {cs : List Value} {zs : List Int} (hS : St w m (.row (.slice a n c) 3 1 cs :: L)) (hr : RCs 1 RInt m cs zs) {fuel : Nat} {r : List Int} (hM : mg113 fuel zs = some r) : Calls P0 113 [.slice a n c].toArray w (Ret fun v w' => ∃ (cs0 : List Value), v = .tuple #[] ∧ n = r.length ∧ RCs 1 RInt m cs0 r ∧ St w' m (.row (.slice a n c) 3 1 cs0 :: L)) := sort_row Tryz.lSort hS hr hM

theorem cg106 {m : Mem} {L : List Atom} {w : World} {a : Option Addr} {n c : Nat} {cs : List Value} {zs : List Int} (hS : St w m (.row (.slice a n c) 3 1 cs :: L)) (hr : RCs 1 RInt m cs zs) {fuel : Nat} {r : List Int} (hM : mg106 fuel zs = some r) : Calls P0 106 [.slice a n c].toArray w (Ret fun v w' => ∃ (a0 : Option Addr) (n0 c0 : Nat) (cs0 : List Value), v = .slice a0 n0 c0 ∧ n0 = r.length ∧ RCs 1 RInt m cs0 r ∧ St w' m (.row (.slice a0 n0 c0) 3 1 cs0 :: L)) := compact_row Tryz.lCompact hS hr hM

theorem cg32 {m : Mem} {L : List Atom} {w : World} {a1 : Option Addr} {n2 c3 : Nat} {s5 : List (List Int)} {q6 : (List Int) → Option Bool} {g7 : FuncId} {caps8 : List Value} (hS : St w m L) (hr4 : RSl 1 (RS 1 RInt) m a1 n2 c3 s5) (he9 : Ent P0 g7) (hg10 : ∀ (m' : Mem) (E : List Atom) (w' : World) (a0 : Option Addr) (n0 c0 : Nat) (x0 : (List Int)) (r : Bool), m ≤ m' → St w' m' (E ++ L) → RSl 1 RInt m' a0 n0 c0 x0 → q6 x0 = some r → Calls P0 g7 (([.slice a0 n0 c0] : List Value) ++ caps8).toArray w' (Ret fun v w'' => v = .bool r ∧ St w'' m' (E ++ L))) {fuel : Nat} {r : Int} (hM : mg32 fuel s5 q6 = some r) : Calls P0 32 [.slice a1 n2 c3, .func (.func g7) #[] caps8.toArray].toArray w (Ret fun v w' => v = .int .i64 r ∧ St w' m (L)) := by
 rw [mg32] at hM
 obtain rfl := hr4.1
 refine enter Tryz.func32 rfl Tryz.ntmps32 (Nat.le_of_ble_eq_true rfl) ?_
 refine c_seq <| c_region <| wl_h hS.toHeld (r_assign (v := .int .i64 _) rfl) <| wl_nil <| c_seq <| c_seq <| c_region <| wl_h hS.toHeld (r_move (v := .slice _ _ _) rfl) ?_
 refine wl_h hS.toHeld (r_len Tryz.underlying23 (a := _) (n := _) (c := _) rfl) <| wl_h hS.toHeld (r_move (v := .int .i64 _) rfl) <| wl_nil <| c_block <| c_loop (fun k f w => ∃ (x32 : Int), mg32_l0 fuel s5 q6 k x32 = some r ∧ St w m (L) ∧ f 0 = .slice a1 s5.length c3 ∧ f 1 = .func (.func g7) #[] caps8.toArray ∧ f 7 = .int .i64 ((s5.length : Nat) : Int) ∧ f 8 = .int .i64 x32) fuel ⟨0, hM, hS, rfl, rfl, rfl, rfl⟩ ?_
 rintro k_0 f33 w34 ⟨x32, hM, hS36, e37, e38, e39, e40⟩
 refine c_know (t := 0) e37 <| c_know (t := 1) e38 <| c_know (t := 7) e39 <| c_know (t := 8) e40 ?_
 clear e37 e38 e39 e40
 rcases k_0 with _ | k_0
 · exact none_ne hM
 rw [mg32_l0] at hM
 refine c_seq <| c_region <| wl_h hS36.toHeld (r_lss (a := _) (b := _) rfl rfl) <| wl_nil <| c_seq <| c_cond (c := _) rfl (fun h41 => ?_) (fun h41 => ?_)
 ·replace hM := bif_t h41 hM
  refine c_skip <| c_seq <| c_block <| c_seq <| c_region <| wl_h hS36.toHeld (r_move (v := .int .i64 _) rfl) ?_
  refine wl_h hS36.toHeld (r_assign (v := .int .i64 _) rfl) <| wl_nil <| c_seq <| c_region <| wl_h hS36.toHeld (r_move (v := .func (.func g7) #[] caps8.toArray) rfl) ?_
  refine wl_h hS36.toHeld (r_move (v := .slice _ _ _) rfl) <| wl_h hS36.toHeld (r_move (v := .int .i64 _) rfl) ?_
  obtain ⟨x42, hx43, h44, h45, hM⟩ := getK_ok hM
  obtain ⟨b46, o47, rfl⟩ := RSl.elem_a hr4 hx43
  obtain ⟨cs48, hI49, hR50⟩ := RSl.elem_at hr4 hx43
  obtain ⟨a51, n52, c53, rfl, hr54⟩ := hR50
  obtain rfl := hr54.1
  refine wl_h hS36.toHeld (r_indexAddr Tryz.underlying23 ty26 (b := _) (o := _) (n := _) (c := _) (i := x32) rfl rfl h44 (RSl.lt hr4 h45)) <| wl_h hS36.toHeld (r_imm ty26 (k := 0) hI49 rfl rfl rfl (v := .slice _ _ _) rfl) ?_
  obtain ⟨r55, hq56, hM⟩ := bnd_ok hM
  refine wl_callv he9 (caps := caps8) rfl (vals := [.slice _ _ _]) rfl (hg10 _ [] _ _ _ _ _ _ (Mem.le_refl _) hS36 hr54 hq56) ?_
  rintro _ w57 ⟨rfl, hS58⟩
  simp only [List.cons_append, List.nil_append] at hS58
  refine wl_nil <| c_cond (c := _) rfl (fun h59 => ?_) (fun h59 => ?_)
  ·replace hM := bif_t h59 hM
   refine c_seq <| c_region <| wl_h hS58.toHeld (r_move (v := .int .i64 _) rfl) <| wl_h hS58.toHeld (r_assign (v := .int .i64 _) rfl) <| wl_nil <| c_ret <| q_retb ?_
   refine q_retl <| q_retb <| ret_tmp (t := 4) rfl (v := .int .i64 _) rfl ?_
   obtain rfl := some_eq hM
   exact ⟨rfl, hS58⟩
  ·replace hM := bif_f h59 hM
   refine c_skip <| c_nil <| q_norm <| c_region ?_
   obtain ⟨hc60, hM⟩ := chk_ok hM
   refine wl_h hS58.toHeld (r_add (a := _) (b := _) rfl rfl (ok_lo hc60) (ok_hi hc60)) <| wl_h hS58.toHeld (r_move (v := .int .i64 _) rfl) <| wl_nil <| c_nil <| q_loop ?_
   exact ⟨k_0, Nat.lt_succ_self _, x32 + 1, hM, hS58, rfl, rfl, rfl, rfl⟩
 ·replace hM := bif_f h41 hM
  refine c_exit <| q_loopx <| q_hit <| c_seq <| c_region <| wl_h hS36.toHeld (r_assign (v := .int .i64 _) rfl) ?_
  refine wl_nil <| c_ret <| ret_tmp (t := 4) rfl (v := .int .i64 _) rfl ?_
  obtain rfl := some_eq hM
  exact ⟨rfl, hS36⟩

theorem cg9 {m : Mem} {L : List Atom} {w : World} {a1 : Option Addr} {n2 c3 : Nat} {s5 : List (List Int)} {q6 : (List Int) → Option Bool} {g7 : FuncId} {caps8 : List Value} (hS : St w m L) (hr4 : RSl 1 (RS 1 RInt) m a1 n2 c3 s5) (he9 : Ent P0 g7) (hg10 : ∀ (m' : Mem) (E : List Atom) (w' : World) (a0 : Option Addr) (n0 c0 : Nat) (x0 : (List Int)) (r : Bool), m ≤ m' → St w' m' (E ++ L) → RSl 1 RInt m' a0 n0 c0 x0 → q6 x0 = some r → Calls P0 g7 (([.slice a0 n0 c0] : List Value) ++ caps8).toArray w' (Ret fun v w'' => v = .bool r ∧ St w'' m' (E ++ L))) {fuel : Nat} {r : Bool} (hM : mg9 fuel s5 q6 = some r) : Calls P0 9 [.slice a1 n2 c3, .func (.func g7) #[] caps8.toArray].toArray w (Ret fun v w' => v = .bool r ∧ St w' m (L)) := by
 rw [mg9] at hM
 obtain rfl := hr4.1
 refine enter Tryz.func9 rfl Tryz.ntmps9 (Nat.le_of_ble_eq_true rfl) ?_
 refine c_seq <| c_region <| wl_h hS.toHeld (r_assign (v := .bool _) rfl) <| wl_nil <| c_seq <| c_region <| wl_h hS.toHeld (r_move (v := .slice _ _ _) rfl) ?_
 refine wl_h hS.toHeld (r_move (v := .func (.func g7) #[] caps8.toArray) rfl) ?_
 obtain ⟨r11, hq12, hM⟩ := bnd_ok hM
 refine wl_call ent32 (vals := [.slice _ _ _, .func (.func g7) #[] caps8.toArray]) rfl (cg32 hS hr4 (q6 := q6) (caps8 := caps8) he9 (fun m' E w' a0 n0 c0 x0 r hle hSt h0 hq => hg10 m' E w' a0 n0 c0 x0 r hle hSt h0 hq) hq12) ?_
 rintro _ w14 ⟨rfl, hS15⟩
 refine wl_h hS15.toHeld (r_geq (a := _) (b := _) rfl rfl) <| wl_h hS15.toHeld (r_assign (v := .bool _) rfl) <| wl_nil <| c_ret <| ret_tmp (t := 4) rfl (v := .bool _) rfl ?_
 obtain rfl := some_eq hM
 exact ⟨rfl, hS15⟩

theorem cg16 {m : Mem} {L : List Atom} {w : World} {a1 : Option Addr} {n2 c3 : Nat} {x5 : List Int} (hS : St w m L) (hr4 : RSl 1 RInt m a1 n2 c3 x5) {fuel : Nat} {r : Bool} (hM : mg16 fuel x5 = some r) : Calls P0 16 [.slice a1 n2 c3].toArray w (Ret fun v w' => v = .bool r ∧ St w' m (L)) := by
 rw [mg16] at hM
 obtain rfl := hr4.1
 refine enter Tryz.func16 rfl Tryz.ntmps16 (Nat.le_of_ble_eq_true rfl) ?_
 refine c_seq <| c_region <| wl_h hS.toHeld (r_assign (v := .bool _) rfl) <| wl_nil <| c_seq <| c_region <| wl_h hS.toHeld (r_move (v := .slice _ _ _) rfl) ?_
 refine wl_h hS.toHeld (r_len Tryz.underlying26 (a := _) (n := _) (c := _) rfl) <| wl_h hS.toHeld (r_gtr (a := _) (b := _) rfl rfl) <| wl_h hS.toHeld (r_assign (v := .bool _) rfl) <| wl_nil <| c_ret <| ret_tmp (t := 2) rfl (v := .bool _) rfl ?_
 obtain rfl := some_eq hM
 exact ⟨rfl, hS⟩

theorem cg6 {m : Mem} {L : List Atom} {w : World} {cs1 : List Value} {f3 : Fleet} (hS : St w m L) (hx2 : RFleet m cs1 f3) {fuel : Nat} {r : Bool} (hM : mg6 fuel f3 = some r) : Calls P0 6 [.agg cs1.toArray].toArray w (Ret fun v w' => v = .bool r ∧ St w' m (L)) := by
 rw [mg6] at hM
 have hk12 := hx2
 obtain ⟨a4, n5, c6, a8, n9, c10, rfl, hr7, hr11⟩ := hx2
 obtain rfl := hr7.1
 obtain rfl := hr11.1
 refine enter Tryz.func6 rfl Tryz.ntmps6 (Nat.le_of_ble_eq_true rfl) ?_
 refine c_seq <| c_region <| wl_box hS (v := .agg #[.slice _ _ _, .slice _ _ _, .int .i64 _, .int .i64 _, .int .i64 _]) rfl (cs := [.slice _ _ _, .slice _ _ _, .int .i64 _, .int .i64 _, .int .i64 _]) rfl ?_
 intro b13 w14 hS15
 refine wl_h hS15.toHeld (r_assign (v := .bool _) rfl) <| wl_nil <| c_seq <| c_region <| wl_h hS15.toHeld (r_fieldAddr fld25_0 (b := _) (o := _) rfl) ?_
 refine wl_h hS15.toHeld (r_box ty22 (k := 0) .here rfl rfl rfl (v := .slice _ _ _) rfl) <| wl_h hS15.toHeld (r_len Tryz.underlying22 (a := _) (n := _) (c := _) rfl) <| wl_h hS15.toHeld (r_gtr (a := _) (b := _) rfl rfl) <| wl_h hS15.toHeld (r_move (v := .bool _) rfl) <| wl_split rfl (c := _) (t := 7) (fun h16 => ?_) (fun h16 => ?_)
 ·replace hM := bif_t h16 hM
  refine wl_off (t := 7) (b := true) rfl rfl rfl ?_
  refine wl_off (t := 7) (b := true) rfl rfl rfl ?_
  refine wl_off (t := 7) (b := true) rfl rfl rfl ?_
  refine wl_off (t := 7) (b := true) rfl rfl rfl ?_
  refine wl_h hS15.toHeld (r_pick_t rfl (v := .bool _) rfl) <| wl_h hS15.toHeld (r_move (v := .bool _) rfl) <| wl_off (t := 13) (b := true) rfl rfl rfl ?_
  refine wl_off (t := 13) (b := true) rfl rfl rfl ?_
  refine wl_off (t := 13) (b := true) rfl rfl rfl ?_
  refine wl_h hS15.toHeld (r_pick_t rfl (v := .bool _) rfl) <| wl_h hS15.toHeld (r_assign (v := .bool _) rfl) <| wl_nil <| c_ret <| ret_tmp (t := 2) rfl (v := .bool _) rfl ?_
  obtain rfl := some_eq hM
  have hS17 := hS15.weaken (.cons _ (.refl _))
  exact ⟨rfl, hS17⟩
 ·replace hM := bif_f h16 hM
  refine wl_on (t := 7) rfl rfl ?_
  refine wl_h hS15.toHeld (r_fieldAddr fld25_1 (b := _) (o := _) rfl) <| wl_on (t := 7) rfl rfl ?_
  refine wl_h hS15.toHeld (r_box ty23 (k := 1) .here rfl rfl rfl (v := .slice _ _ _) rfl) <| wl_on (t := 7) rfl rfl ?_
  refine wl_h hS15.toHeld (r_len Tryz.underlying23 (a := _) (n := _) (c := _) rfl) <| wl_on (t := 7) rfl rfl ?_
  refine wl_h hS15.toHeld (r_gtr (a := _) (b := _) rfl rfl) <| wl_h hS15.toHeld (r_pick_f rfl (v := .bool _) rfl) <| wl_h hS15.toHeld (r_move (v := .bool _) rfl) <| wl_split rfl (c := _) (t := 13) (fun h18 => ?_) (fun h18 => ?_)
  ·replace hM := bif_t h18 hM
   refine wl_off (t := 13) (b := true) rfl rfl rfl ?_
   refine wl_off (t := 13) (b := true) rfl rfl rfl ?_
   refine wl_off (t := 13) (b := true) rfl rfl rfl ?_
   refine wl_h hS15.toHeld (r_pick_t rfl (v := .bool _) rfl) <| wl_h hS15.toHeld (r_assign (v := .bool _) rfl) <| wl_nil <| c_ret <| ret_tmp (t := 2) rfl (v := .bool _) rfl ?_
   obtain rfl := some_eq hM
   have hS19 := hS15.weaken (.cons _ (.refl _))
   exact ⟨rfl, hS19⟩
  ·replace hM := bif_f h18 hM
   refine wl_on (t := 13) rfl rfl ?_
   refine wl_h hS15.toHeld (r_fieldAddr fld25_1 (b := _) (o := _) rfl) <| wl_on (t := 13) rfl rfl ?_
   refine wl_h hS15.toHeld (r_box ty23 (k := 1) .here rfl rfl rfl (v := .slice _ _ _) rfl) <| wl_on (t := 13) rfl rfl ?_
   obtain ⟨r20, hq21, hM⟩ := bnd_ok hM
   refine wl_call ent9 (vals := [.slice _ _ _, .func (.func 16) #[] #[]]) rfl (cg9 hS15 hr11 (q6 := (mg16 fuel)) (caps8 := []) ent16 (fun m' E w' a0 n0 c0 x0 r hle hSt h0 hq => cg16 hSt h0 hq) hq21) ?_
   rintro _ w23 ⟨rfl, hS24⟩
   refine wl_h hS24.toHeld (r_pick_f rfl (v := .bool _) rfl) <| wl_h hS24.toHeld (r_assign (v := .bool _) rfl) <| wl_nil <| c_ret <| ret_tmp (t := 2) rfl (v := .bool _) rfl ?_
   obtain rfl := some_eq hM
   have hS25 := hS24.weaken (.cons _ (.refl _))
   exact ⟨rfl, hS25⟩

theorem cg17 {m : Mem} {L : List Atom} {w : World} {a : Option Addr} {n c : Nat} {xs : List Int} (hS : St w m L) (hr : RSl 1 RInt m a n c xs) {fuel : Nat} {r : List Int} (hM : mg17 fuel xs = some r) : Calls P0 17 [.slice a n c].toArray w (Ret fun v w' => ∃ (a0 : Option Addr) (n0 c0 : Nat) (cs0 : List Value), v = .slice a0 n0 c0 ∧ n0 = r.length ∧ RCs 1 RInt m cs0 r ∧ St w' m (.row (.slice a0 n0 c0) 3 1 cs0 :: L)) := by
 rw [mg17] at hM
 rcases a with _ | ad
 · obtain rfl : n = 0 := by
    rcases Nat.eq_zero_or_pos n with h | h
    · exact h
    · obtain ⟨b, o, e, _⟩ := hr.2.2.2 h; cases e
   obtain rfl : xs = [] := List.eq_nil_of_length_eq_zero hr.1
   refine enter Tryz.func17 rfl Tryz.ntmps17 (Nat.le_of_ble_eq_true rfl) ?_
   refine c_seq <| c_region <| wl_h hS.toHeld (r_assign (v := .slice _ _ _) rfl) <| wl_nil <| c_seq <| c_seq <| c_region <| wl_h hS.toHeld (r_move (v := .slice _ _ _) rfl) ?_
   refine wl_h hS.toHeld (r_nil_eql Tryz.underlying26 rfl rfl) <| wl_nil <| c_true rfl <| c_seq <| c_region <| wl_h hS.toHeld (r_assign (v := .slice _ _ _) rfl) ?_
   refine wl_nil <| c_ret <| ret_tmp (t := 2) rfl (v := .slice _ _ _) rfl ?_
   have hS1 := hS.nilRow 3 1
   have hrc3 : RCs 1 RInt m [] ([] : List Int) := RCs.nil
   obtain ⟨_, hM⟩ := chk_ok hM
   obtain rfl := some_eq hM
   exact ⟨none, 0, 0, [], rfl, row_n (hS1.toHeld.own .here) hrc3 (by decide), hrc3, hS1⟩
 · obtain rfl := hr.1
   refine enter Tryz.func17 rfl Tryz.ntmps17 (Nat.le_of_ble_eq_true rfl) ?_
   refine c_seq <| c_region <| wl_h hS.toHeld (r_assign (v := .slice _ _ _) rfl) <| wl_nil <| c_seq <| c_seq <| c_region <| wl_h hS.toHeld (r_move (v := .slice _ _ _) rfl) ?_
   refine wl_h hS.toHeld (r_nil_eql Tryz.underlying26 rfl rfl) <| wl_nil <| c_false rfl <| c_skip <| c_seq <| c_region <| wl_emptySlice Tryz.underlying26 ty3 hS ?_
   intro b2 w3 hS4
   have hrc5 : RCs 1 RInt m [] ([] : List Int) := RCs.nil
   refine wl_h hS4.toHeld (r_move (v := .slice _ _ _) rfl) ?_
   obtain ⟨hc6, hM⟩ := chk_ok hM
   obtain ⟨cs7, hq8, hrc9⟩ := RSl.cells RInt.one (by decide) hr hS4.toHeld
   refine wl_append_src Tryz.underlying26 ty3 rfl (by decide) hS4 (a := _) (nn := _) (c := _) rfl (a2 := _) (k2 := _) (c2 := _) rfl .here hq8 (lim_b hc6 rfl) (lim_a hc6) ?_
   intro a10 c11 w12 hS13
   have hrc15 := RCs.append hrc5 hrc9
   generalize [] ++ cs7 = cs16 at hS13 hrc15
   refine wl_h hS13.toHeld (r_assign (v := .slice _ _ _) rfl) <| wl_nil <| c_ret <| ret_tmp (t := 2) rfl (v := .slice _ _ _) rfl ?_
   obtain rfl := some_eq hM
   exact ⟨a10, (0 + xs.length), c11, cs16, rfl, row_n (hS13.toHeld.own .here) hrc15 (by decide), hrc15, hS13⟩

theorem cg37 {m : Mem} {L : List Atom} {w : World} {a1 : Option Addr} {n2 c3 : Nat} {l5 : List (List Int)} (hS : St w m L) (hr4 : RSl 1 (RS 1 RInt) m a1 n2 c3 l5) {fuel : Nat} {r : (List (List Int))} (hM : mg37 fuel l5 = some r) : Calls P0 37 [.slice a1 n2 c3].toArray w (Ret fun v w' => ∃ (m' : Mem) (a0 : Option Addr) (n0 : Nat) (c0 : Nat) (cs0 : List Value), v = .slice a0 n0 c0 ∧ m ≤ m' ∧ n0 = r.length ∧ RCs 1 (RS 1 RInt) m' cs0 r ∧ St w' m' (.row (.slice a0 n0 c0) 26 1 cs0 :: L)) := by
 rw [mg37] at hM
 obtain rfl := hr4.1
 refine enter Tryz.func37 rfl Tryz.ntmps37 (Nat.le_of_ble_eq_true rfl) ?_
 refine c_seq <| c_region <| wl_h hS.toHeld (r_assign (v := .slice _ _ _) rfl) <| wl_nil <| c_seq <| c_region <| wl_h hS.toHeld (r_assign (v := .slice _ _ _) rfl) ?_
 refine wl_nil <| c_seq <| c_seq <| c_region <| wl_h hS.toHeld (r_move (v := .slice _ _ _) rfl) ?_
 refine wl_h hS.toHeld (r_len Tryz.underlying23 (a := _) (n := _) (c := _) rfl) <| wl_h hS.toHeld (r_move (v := .int .i64 _) rfl) <| wl_nil <| c_block ?_
 have hS170 := hS.nilRow 26 1
 have hrc171 : RCs 1 (RS 1 RInt) m [] ([] : List (List Int)) := RCs.nil
 refine c_loop (fun k f w => ∃ (x175 : Int) (l176 : List (List Int)) (m172 : Mem) (a177 : Option Addr) (n178 : Nat) (c179 : Nat) (cs180 : List Value), mg37_l0 fuel l5 k x175 l176 = some r ∧ m ≤ m172 ∧ n178 = l176.length ∧ RCs 1 (RS 1 RInt) m172 cs180 l176 ∧ St w m172 (.row (.slice a177 n178 c179) 26 1 cs180 :: L) ∧ f 3 = .slice a177 n178 c179 ∧ f 6 = .slice a1 l5.length c3 ∧ f 7 = .int .i64 ((l5.length : Nat) : Int) ∧ f 8 = .int .i64 x175) fuel ⟨0, ([] : List (List Int)), m, none, 0, 0, [], hM, Mem.le_refl _, row_n (hS170.toHeld.own .here) hrc171 (by decide), hrc171, hS170, rfl, rfl, rfl, rfl⟩ ?_
 rintro k_0 f183 w184 ⟨x175, l176, m172, a177, n178, c179, cs180, hM, hm173, hn181, hrc182, hS186, e187, e188, e189, e190⟩
 replace hr4 := RSl.mono (RS.mono RInt.mono) hr4 hm173
 replace hrc171 := RCs.mono (RS.mono RInt.mono) hrc171 hm173
 have le174 := hm173
 subst hn181
 refine c_know (t := 3) e187 <| c_know (t := 6) e188 <| c_know (t := 7) e189 <| c_know (t := 8) e190 ?_
 clear e187 e188 e189 e190
 rcases k_0 with _ | k_0
 · exact none_ne hM
 rw [mg37_l0] at hM
 refine c_seq <| c_region <| wl_h hS186.toHeld (r_lss (a := _) (b := _) rfl rfl) <| wl_nil <| c_seq <| c_cond (c := _) rfl (fun h191 => ?_) (fun h191 => ?_)
 ·replace hM := bif_t h191 hM
  refine c_skip <| c_seq <| c_block <| c_seq <| c_region ?_
  obtain ⟨x192, hx193, h194, h195, hM⟩ := getK_ok hM
  obtain ⟨b196, o197, rfl⟩ := RSl.elem_a hr4 hx193
  obtain ⟨cs198, hI199, hR200⟩ := RSl.elem_at hr4 hx193
  obtain ⟨a201, n202, c203, rfl, hr204⟩ := hR200
  obtain rfl := hr204.1
  refine wl_h hS186.toHeld (r_indexAddr Tryz.underlying23 ty26 (b := _) (o := _) (n := _) (c := _) (i := x175) rfl rfl h194 (RSl.lt hr4 h195)) <| wl_h hS186.toHeld (r_imm ty26 (k := 0) hI199 rfl rfl rfl (v := .slice _ _ _) rfl) <| wl_h hS186.toHeld (r_assign (v := .slice _ _ _) rfl) <| wl_nil <| c_region <| wl_h hS186.toHeld (r_move (v := .slice _ _ _) rfl) ?_
  refine wl_h hS186.toHeld (r_move (v := .slice _ _ _) rfl) ?_
  obtain ⟨r205, hq206, hM⟩ := bnd_ok hM
  refine wl_call ent17 (vals := [.slice _ _ _]) rfl (cg17 hS186 hr204 hq206) ?_
  rintro _ w214 ⟨a208, n209, c210, cs211, rfl, rfl, hrc212, hS215⟩
  obtain ⟨m216, hm217, hS218, hr219⟩ := hS215.freezeR .here hrc212 RInt.mono (by decide)
  have le221 := Mem.le_trans le174 hm217
  replace hr4 := RSl.mono (RS.mono RInt.mono) hr4 hm217
  replace hrc171 := RCs.mono (RS.mono RInt.mono) hrc171 hm217
  replace hrc182 := RCs.mono (RS.mono RInt.mono) hrc182 hm217
  replace hr204 := RSl.mono RInt.mono hr204 hm217
  replace hI199 := Imm.mono hI199 hm217
  replace hrc212 := RCs.mono RInt.mono hrc212 hm217
  refine wl_buildSlice Tryz.underlying23 ty26 rfl (by decide) (by decide) hS218 (ps := [(0, [.slice _ _ _])]) rfl rfl (cs := [.slice _ _ _]) rfl rfl (by decide) ?_
  intro b223 w224 hS225
  have hrc226 : RCs 1 (RS 1 RInt) m216 [.slice a208 r205.length c210] ([r205] : List (List Int)) := (RCs.cons (d := [.slice a208 r205.length c210]) rfl ⟨_, _, _, rfl, hr219⟩ RCs.nil)
  obtain ⟨hc227, hM⟩ := chk_ok hM
  refine wl_append_src Tryz.underlying23 ty26 rfl (by decide) hS225 (a := _) (nn := _) (c := _) rfl (a2 := _) (k2 := _) (c2 := _) rfl (.there .here) (row_src (hS225.toHeld.own .here) (RCs.allOne RS.one (by decide) hrc226)) (lim_b hc227 rfl) (lim_a hc227) ?_
  intro a228 c229 w230 hS231
  have hrc233 := RCs.append hrc182 hrc226
  generalize cs180 ++ [.slice a208 r205.length c210] = cs234 at hS231 hrc233
  have hS235 := hS231.weaken (.cons_cons _ (.cons _ (.refl _)))
  refine wl_h hS235.toHeld (r_assign (v := .slice _ _ _) rfl) <| wl_nil <| c_nil <| q_norm <| c_region ?_
  obtain ⟨hc236, hM⟩ := chk_ok hM
  refine wl_h hS235.toHeld (r_add (a := _) (b := _) rfl rfl (ok_lo hc236) (ok_hi hc236)) <| wl_h hS235.toHeld (r_move (v := .int .i64 _) rfl) <| wl_nil <| c_nil <| q_loop ?_
  exact ⟨k_0, Nat.lt_succ_self _, x175 + 1, (l176 ++ [r205]), m216, a228, (l176.length + 1), c229, cs234, hM, le221, row_n (hS235.toHeld.own .here) hrc233 (by decide), hrc233, hS235, rfl, rfl, rfl, rfl⟩
 ·replace hM := bif_f h191 hM
  refine c_exit <| q_loopx <| q_hit <| c_seq <| c_region <| wl_h hS186.toHeld (r_move (v := .slice _ _ _) rfl) ?_
  refine wl_h hS186.toHeld (r_assign (v := .slice _ _ _) rfl) <| wl_nil <| c_ret <| ret_tmp (t := 2) rfl (v := .slice _ _ _) rfl ?_
  obtain rfl := some_eq hM
  exact ⟨m172, a177, l176.length, c179, cs180, rfl, le174, row_n (hS186.toHeld.own .here) hrc182 (by decide), hrc182, hS186⟩

theorem cg58 {m : Mem} {L : List Atom} {w : World} {a : Option Addr} {n c : Nat} {xs : List Stop} (hS : St w m L) (hr : RSl 5 RStop m a n c xs) {fuel : Nat} {r : List Stop} (hM : mg58 fuel xs = some r) : Calls P0 58 [.slice a n c].toArray w (Ret fun v w' => ∃ (a0 : Option Addr) (n0 c0 : Nat) (cs0 : List Value), v = .slice a0 n0 c0 ∧ n0 = r.length ∧ RCs 5 RStop m cs0 r ∧ St w' m (.row (.slice a0 n0 c0) 34 5 cs0 :: L)) := by
 rw [mg58] at hM
 rcases a with _ | ad
 · obtain rfl : n = 0 := by
    rcases Nat.eq_zero_or_pos n with h | h
    · exact h
    · obtain ⟨b, o, e, _⟩ := hr.2.2.2 h; cases e
   obtain rfl : xs = [] := List.eq_nil_of_length_eq_zero hr.1
   refine enter Tryz.func58 rfl Tryz.ntmps58 (Nat.le_of_ble_eq_true rfl) ?_
   refine c_seq <| c_region <| wl_h hS.toHeld (r_assign (v := .slice _ _ _) rfl) <| wl_nil <| c_seq <| c_seq <| c_region <| wl_h hS.toHeld (r_move (v := .slice _ _ _) rfl) ?_
   refine wl_h hS.toHeld (r_nil_eql Tryz.underlying22 rfl rfl) <| wl_nil <| c_true rfl <| c_seq <| c_region <| wl_h hS.toHeld (r_assign (v := .slice _ _ _) rfl) ?_
   refine wl_nil <| c_ret <| ret_tmp (t := 2) rfl (v := .slice _ _ _) rfl ?_
   have hS1 := hS.nilRow 34 5
   have hrc3 : RCs 5 RStop m [] ([] : List Stop) := RCs.nil
   obtain ⟨_, hM⟩ := chk_ok hM
   obtain rfl := some_eq hM
   exact ⟨none, 0, 0, [], rfl, row_n (hS1.toHeld.own .here) hrc3 (by decide), hrc3, hS1⟩
 · obtain rfl := hr.1
   refine enter Tryz.func58 rfl Tryz.ntmps58 (Nat.le_of_ble_eq_true rfl) ?_
   refine c_seq <| c_region <| wl_h hS.toHeld (r_assign (v := .slice _ _ _) rfl) <| wl_nil <| c_seq <| c_seq <| c_region <| wl_h hS.toHeld (r_move (v := .slice _ _ _) rfl) ?_
   refine wl_h hS.toHeld (r_nil_eql Tryz.underlying22 rfl rfl) <| wl_nil <| c_false rfl <| c_skip <| c_seq <| c_region <| wl_emptySlice Tryz.underlying22 ty34 hS ?_
   intro b2 w3 hS4
   have hrc5 : RCs 5 RStop m [] ([] : List Stop) := RCs.nil
   refine wl_h hS4.toHeld (r_move (v := .slice _ _ _) rfl) ?_
   obtain ⟨hc6, hM⟩ := chk_ok hM
   obtain ⟨cs7, hq8, hrc9⟩ := RSl.cells RStop.one (by decide) hr hS4.toHeld
   refine wl_append_src Tryz.underlying22 ty34 rfl (by decide) hS4 (a := _) (nn := _) (c := _) rfl (a2 := _) (k2 := _) (c2 := _) rfl .here hq8 (lim_b hc6 rfl) (lim_a hc6) ?_
   intro a10 c11 w12 hS13
   have hrc15 := RCs.append hrc5 hrc9
   generalize [] ++ cs7 = cs16 at hS13 hrc15
   refine wl_h hS13.toHeld (r_assign (v := .slice _ _ _) rfl) <| wl_nil <| c_ret <| ret_tmp (t := 2) rfl (v := .slice _ _ _) rfl ?_
   obtain rfl := some_eq hM
   exact ⟨a10, (0 + xs.length), c11, cs16, rfl, row_n (hS13.toHeld.own .here) hrc15 (by decide), hrc15, hS13⟩

theorem cg15 {m : Mem} {L : List Atom} {w : World} {cs1 : List Value} {f3 : Fleet} (hS : St w m L) (hx2 : RFleet m cs1 f3) {fuel : Nat} {r : Fleet × Fleet} (hM : mg15 fuel f3 = some r) : Calls P0 15 [.agg cs1.toArray].toArray w (Ret fun v w' => ∃ (m' : Mem) (a0 : Option Addr) (n0 : Nat) (c0 : Nat) (cs0 : List Value) (a1 : Option Addr) (n1 : Nat) (c1 : Nat) (cs1 : List Value) (a2 : Option Addr) (n2 : Nat) (c2 : Nat) (cs2 : List Value) (a3 : Option Addr) (n3 : Nat) (c3 : Nat) (cs3 : List Value), v = .tuple #[.agg #[.slice a0 n0 c0, .slice a1 n1 c1, .int .i64 r.1.cap, .int .i64 r.1.start, .int .i64 r.1.back], .agg #[.slice a2 n2 c2, .slice a3 n3 c3, .int .i64 r.2.cap, .int .i64 r.2.start, .int .i64 r.2.back]] ∧ m ≤ m' ∧ n0 = r.1.stops.length ∧ RCs 5 RStop m' cs0 r.1.stops ∧ n1 = r.1.minutes.length ∧ RCs 1 (RS 1 RInt) m' cs1 r.1.minutes ∧ n2 = r.2.stops.length ∧ RCs 5 RStop m' cs2 r.2.stops ∧ n3 = r.2.minutes.length ∧ RCs 1 (RS 1 RInt) m' cs3 r.2.minutes ∧ St w' m' (.row (.slice a0 n0 c0) 34 5 cs0 :: .row (.slice a1 n1 c1) 26 1 cs1 :: .row (.slice a2 n2 c2) 120 5 cs2 :: .row (.slice a3 n3 c3) 26 1 cs3 :: L)) := by
 rw [mg15] at hM
 have hk12 := hx2
 obtain ⟨a4, n5, c6, a8, n9, c10, rfl, hr7, hr11⟩ := hx2
 obtain rfl := hr7.1
 obtain rfl := hr11.1
 refine enter Tryz.func15 rfl Tryz.ntmps15 (Nat.le_of_ble_eq_true rfl) ?_
 refine c_seq <| c_region <| wl_box hS (v := .agg #[.slice _ _ _, .slice _ _ _, .int .i64 _, .int .i64 _, .int .i64 _]) rfl (cs := [.slice _ _ _, .slice _ _ _, .int .i64 _, .int .i64 _, .int .i64 _]) rfl ?_
 intro b13 w14 hS15
 refine wl_alloc ty25 rfl hS15 ?_
 intro b16 w17 hS18
 refine wl_alloc ty53 rfl hS18 ?_
 intro b19 w20 hS21
 refine wl_nil <| c_seq ?_
 obtain ⟨r24, hq25, hM⟩ := bnd_ok hM
 obtain ⟨r36, hq37, hM⟩ := bnd_ok hM
 have hH71 := (hS21.weaken (.cons_cons _ (.cons_cons _ (.cons_cons _ (.refl _))))).toHeld
 refine c_drawJ (k := 15) (fun f w => ∃ (m38 : Mem) (b58 : Nat) (a59 : Option Addr) (n60 : Nat) (c61 : Nat) (cs62 : List Value) (a65 : Option Addr) (n66 : Nat) (c67 : Nat) (cs68 : List Value), m ≤ m38 ∧ n60 = (r36).length ∧ RCs 1 (RS 1 RInt) m38 cs62 r36 ∧ n66 = (r24).length ∧ RCs 5 RStop m38 cs68 r24 ∧ St w m38 (.box b58 25 [.slice a65 n66 c67, .slice a59 n60 c61, .int .i64 f3.cap, .int .i64 f3.start, .int .i64 f3.back] :: .row (.slice a59 n60 c61) 26 1 cs62 :: .row (.slice a65 n66 c67) 34 5 cs68 :: .box b19 53 [.slice none 0 0, .slice none 0 0, .int .i64 0, .int .i64 0, .int .i64 0] :: .box b16 25 [.slice none 0 0, .slice none 0 0, .int .i64 0, .int .i64 0, .int .i64 0] :: .box b13 25 [.slice a4 f3.stops.length c6, .slice a8 f3.minutes.length c10, .int .i64 f3.cap, .int .i64 f3.start, .int .i64 f3.back] :: L) ∧ f 1 = .pointer (some ⟨b13, 0, none⟩) ∧ f 2 = .pointer (some ⟨b16, 0, none⟩) ∧ f 3 = .pointer (some ⟨b19, 0, none⟩) ∧ f 4 = .pointer (some ⟨b58, 0, none⟩)) (fun w => Held w m (.box b19 53 [.slice none 0 0, .slice none 0 0, .int .i64 0, .int .i64 0, .int .i64 0] :: .box b16 25 [.slice none 0 0, .slice none 0 0, .int .i64 0, .int .i64 0, .int .i64 0] :: .box b13 25 [.slice a4 f3.stops.length c6, .slice a8 f3.minutes.length c10, .int .i64 f3.cap, .int .i64 f3.start, .int .i64 f3.back] :: L)) mixed rfl ?_ ?_
 ·replace hH71 := hH71.drew1
  have hS72 := hS21.drew1
  refine d_v (i := 0) rfl (by kernel_rfl) rfl (r_fieldAddr fld25_0 (b := _) (o := _) rfl) hH71 ?_
  refine d_v (i := 1) rfl (by kernel_rfl) rfl (r_box ty22 (k := 0) (.there (.there .here)) rfl rfl rfl (v := .slice _ _ _) rfl) hH71 ?_
  refine d_v (i := 3) rfl (by kernel_rfl) rfl (r_fieldAddr fld25_1 (b := _) (o := _) rfl) hH71 ?_
  refine d_v (i := 4) rfl (by kernel_rfl) rfl (r_box ty23 (k := 1) (.there (.there .here)) rfl rfl rfl (v := .slice _ _ _) rfl) hH71 ?_
  refine d_v (i := 6) rfl (by kernel_rfl) rfl (r_fieldAddr fld25_2 (b := _) (o := _) rfl) hH71 ?_
  refine d_v (i := 7) rfl (by kernel_rfl) rfl (r_box ty3 (k := 2) (.there (.there .here)) rfl rfl rfl (v := .int .i64 _) rfl) hH71 ?_
  refine d_v (i := 8) rfl (by kernel_rfl) rfl (r_fieldAddr fld25_3 (b := _) (o := _) rfl) hH71 ?_
  refine d_v (i := 9) rfl (by kernel_rfl) rfl (r_box ty3 (k := 3) (.there (.there .here)) rfl rfl rfl (v := .int .i64 _) rfl) hH71 ?_
  refine d_v (i := 10) rfl (by kernel_rfl) rfl (r_fieldAddr fld25_4 (b := _) (o := _) rfl) hH71 ?_
  refine d_v (i := 11) rfl (by kernel_rfl) rfl (r_box ty3 (k := 4) (.there (.there .here)) rfl rfl rfl (v := .int .i64 _) rfl) hH71 ?_
  refine d_all (rs := [2, 13]) (by kernel_rfl) (by simp) (fun j hj o ho => ?_)
  simp only [List.mem_cons, List.not_mem_nil, or_false] at hj
  rcases hj with rfl | rfl
  ·cases ho
   refine wl_call ent58 (vals := [.slice _ _ _]) rfl (cg58 hS72 hr7 hq25) ?_
   rintro _ w80 ⟨a74, n75, c76, cs77, rfl, rfl, hrc78, hS81⟩
   refine wl_nil ?_
   have hH82 := hS81.toHeld.mono (Mem.le_refl _) (List.Sublist.subset (.cons _ (.cons_cons _ (.cons_cons _ (.cons_cons _ (.refl _))))))
   refine ⟨hH82, ?_⟩
   refine d_all (rs := [5, 13]) (by kernel_rfl) (by simp) (fun j hj o ho => ?_)
   simp only [List.mem_cons, List.not_mem_nil, or_false] at hj
   rcases hj with rfl | rfl
   ·cases ho
    refine wl_call ent37 (vals := [.slice _ _ _]) rfl (cg37 hS81 hr11 hq37) ?_
    rintro _ w91 ⟨m83, a85, n86, c87, cs88, rfl, hm84, rfl, hrc89, hS92⟩
    have le93 := hm84
    replace hk12 := RFleet.mono _ _ _ _ hk12 hm84
    replace hr7 := RSl.mono RStop.mono hr7 hm84
    replace hr11 := RSl.mono (RS.mono RInt.mono) hr11 hm84
    replace hrc78 := RCs.mono RStop.mono hrc78 hm84
    refine wl_nil ?_
    have hH94 := hS92.toHeld.mono le93 (List.Sublist.subset (.cons _ (.cons _ (.cons_cons _ (.cons_cons _ (.cons_cons _ (.refl _)))))))
    refine ⟨hH94, ?_⟩
    refine d_v (i := 12) rfl (by kernel_rfl) rfl (r_build ty25 st25 (ps := [(0, [.slice _ _ _]), (1, [.slice _ _ _]), (2, [.int .i64 _]), (3, [.int .i64 _]), (4, [.int .i64 _])]) rfl rfl (cs := [.slice _ _ _, .slice _ _ _, .int .i64 _, .int .i64 _, .int .i64 _]) rfl) hH94 ?_
    refine d_all (rs := [13]) (by kernel_rfl) (by simp) (fun j hj o ho => ?_)
    obtain rfl : j = 13 := by simpa using hj
    cases ho
    refine wl_alloc ty25 rfl hS92 ?_
    intro b95 w96 hS97
    refine wl_nil ?_
    have hH98 := hS97.toHeld.mono le93 (List.Sublist.subset (.cons _ (.cons _ (.cons _ (.cons_cons _ (.cons_cons _ (.cons_cons _ (.refl _))))))))
    refine ⟨hH98, ?_⟩
    refine d_all (rs := [14]) (by kernel_rfl) (by simp) (fun j hj o ho => ?_)
    obtain rfl : j = 14 := by simpa using hj
    cases ho
    refine wl_store_box ty25 hS97 rfl (v := .agg #[.slice _ _ _, .slice _ _ _, .int .i64 _, .int .i64 _, .int .i64 _]) rfl (vs := [.slice _ _ _, .slice _ _ _, .int .i64 _, .int .i64 _, .int .i64 _]) rfl rfl rfl .here (cs' := [.slice _ _ _, .slice _ _ _, .int .i64 _, .int .i64 _, .int .i64 _]) rfl rfl ?_
    intro w99 hS100
    refine wl_nil ?_
    have hH101 := hS100.toHeld.mono le93 (List.Sublist.subset (.cons _ (.cons _ (.cons _ (.cons_cons _ (.cons_cons _ (.cons_cons _ (.refl _))))))))
    refine ⟨hH101, ?_⟩
    refine d_end (by kernel_rfl) ?_
    exact ⟨_, _, _, _, _, _, _, _, _, _, le93, row_n (hS100.toHeld.own (.there .here)) hrc89 (by decide), hrc89, row_n (hS100.toHeld.own (.there (.there .here))) hrc78 (by decide), hrc78, hS100, rfl, rfl, rfl, rfl⟩
   ·cases ho
    refine wl_alloc ty25 rfl hS81 ?_
    intro b102 w103 hS104
    refine wl_nil ?_
    have hH105 := hS104.toHeld.mono (Mem.le_refl _) (List.Sublist.subset (.cons _ (.cons _ (.cons_cons _ (.cons_cons _ (.cons_cons _ (.refl _)))))))
    refine ⟨hH105, ?_⟩
    refine d_all (rs := [5]) (by kernel_rfl) (by simp) (fun j hj o ho => ?_)
    obtain rfl : j = 5 := by simpa using hj
    cases ho
    refine wl_call ent37 (vals := [.slice _ _ _]) rfl (cg37 hS104 hr11 hq37) ?_
    rintro _ w114 ⟨m106, a108, n109, c110, cs111, rfl, hm107, rfl, hrc112, hS115⟩
    have le116 := hm107
    replace hk12 := RFleet.mono _ _ _ _ hk12 hm107
    replace hr7 := RSl.mono RStop.mono hr7 hm107
    replace hr11 := RSl.mono (RS.mono RInt.mono) hr11 hm107
    replace hrc78 := RCs.mono RStop.mono hrc78 hm107
    refine wl_nil ?_
    have hH117 := hS115.toHeld.mono le116 (List.Sublist.subset (.cons _ (.cons _ (.cons _ (.cons_cons _ (.cons_cons _ (.cons_cons _ (.refl _))))))))
    refine ⟨hH117, ?_⟩
    refine d_v (i := 12) rfl (by kernel_rfl) rfl (r_build ty25 st25 (ps := [(0, [.slice _ _ _]), (1, [.slice _ _ _]), (2, [.int .i64 _]), (3, [.int .i64 _]), (4, [.int .i64 _])]) rfl rfl (cs := [.slice _ _ _, .slice _ _ _, .int .i64 _, .int .i64 _, .int .i64 _]) rfl) hH117 ?_
    refine d_all (rs := [14]) (by kernel_rfl) (by simp) (fun j hj o ho => ?_)
    obtain rfl : j = 14 := by simpa using hj
    cases ho
    refine wl_store_box ty25 hS115 rfl (v := .agg #[.slice _ _ _, .slice _ _ _, .int .i64 _, .int .i64 _, .int .i64 _]) rfl (vs := [.slice _ _ _, .slice _ _ _, .int .i64 _, .int .i64 _, .int .i64 _]) rfl rfl rfl (.there .here) (cs' := [.slice _ _ _, .slice _ _ _, .int .i64 _, .int .i64 _, .int .i64 _]) rfl rfl ?_
    intro w118 hS119
    refine wl_nil ?_
    have hH120 := hS119.toHeld.mono le116 (List.Sublist.subset (.cons _ (.cons _ (.cons _ (.cons_cons _ (.cons_cons _ (.cons_cons _ (.refl _))))))))
    refine ⟨hH120, ?_⟩
    refine d_end (by kernel_rfl) ?_
    have hS121 := hS119.front (.there (.there (.there (.there (.there .here)))))
    have hS122 := hS121.front (.there (.there (.there (.there (.there .here)))))
    have hS123 := hS122.front (.there (.there (.there (.there (.there .here)))))
    have hS124 := hS123.front (.there (.there (.there (.there (.there .here)))))
    have hS125 := hS124.front (.there (.there (.there (.there .here))))
    have hS126 := hS125.front (.there (.there (.there (.there (.there .here)))))
    exact ⟨_, _, _, _, _, _, _, _, _, _, le116, row_n (hS126.toHeld.own (.there .here)) hrc112 (by decide), hrc112, row_n (hS126.toHeld.own (.there (.there .here))) hrc78 (by decide), hrc78, hS126, rfl, rfl, rfl, rfl⟩
  ·cases ho
   refine wl_alloc ty25 rfl hS72 ?_
   intro b127 w128 hS129
   refine wl_nil ?_
   have hH130 := hS129.toHeld.mono (Mem.le_refl _) (List.Sublist.subset (.cons _ (.cons_cons _ (.cons_cons _ (.cons_cons _ (.refl _))))))
   refine ⟨hH130, ?_⟩
   refine d_all (rs := [2]) (by kernel_rfl) (by simp) (fun j hj o ho => ?_)
   obtain rfl : j = 2 := by simpa using hj
   cases ho
   refine wl_call ent58 (vals := [.slice _ _ _]) rfl (cg58 hS129 hr7 hq25) ?_
   rintro _ w138 ⟨a132, n133, c134, cs135, rfl, rfl, hrc136, hS139⟩
   refine wl_nil ?_
   have hH140 := hS139.toHeld.mono (Mem.le_refl _) (List.Sublist.subset (.cons _ (.cons _ (.cons_cons _ (.cons_cons _ (.cons_cons _ (.refl _)))))))
   refine ⟨hH140, ?_⟩
   refine d_all (rs := [5]) (by kernel_rfl) (by simp) (fun j hj o ho => ?_)
   obtain rfl : j = 5 := by simpa using hj
   cases ho
   refine wl_call ent37 (vals := [.slice _ _ _]) rfl (cg37 hS139 hr11 hq37) ?_
   rintro _ w149 ⟨m141, a143, n144, c145, cs146, rfl, hm142, rfl, hrc147, hS150⟩
   have le151 := hm142
   replace hk12 := RFleet.mono _ _ _ _ hk12 hm142
   replace hr7 := RSl.mono RStop.mono hr7 hm142
   replace hr11 := RSl.mono (RS.mono RInt.mono) hr11 hm142
   replace hrc136 := RCs.mono RStop.mono hrc136 hm142
   refine wl_nil ?_
   have hH152 := hS150.toHeld.mono le151 (List.Sublist.subset (.cons _ (.cons _ (.cons _ (.cons_cons _ (.cons_cons _ (.cons_cons _ (.refl _))))))))
   refine ⟨hH152, ?_⟩
   refine d_v (i := 12) rfl (by kernel_rfl) rfl (r_build ty25 st25 (ps := [(0, [.slice _ _ _]), (1, [.slice _ _ _]), (2, [.int .i64 _]), (3, [.int .i64 _]), (4, [.int .i64 _])]) rfl rfl (cs := [.slice _ _ _, .slice _ _ _, .int .i64 _, .int .i64 _, .int .i64 _]) rfl) hH152 ?_
   refine d_all (rs := [14]) (by kernel_rfl) (by simp) (fun j hj o ho => ?_)
   obtain rfl : j = 14 := by simpa using hj
   cases ho
   refine wl_store_box ty25 hS150 rfl (v := .agg #[.slice _ _ _, .slice _ _ _, .int .i64 _, .int .i64 _, .int .i64 _]) rfl (vs := [.slice _ _ _, .slice _ _ _, .int .i64 _, .int .i64 _, .int .i64 _]) rfl rfl rfl (.there (.there .here)) (cs' := [.slice _ _ _, .slice _ _ _, .int .i64 _, .int .i64 _, .int .i64 _]) rfl rfl ?_
   intro w153 hS154
   refine wl_nil ?_
   have hH155 := hS154.toHeld.mono le151 (List.Sublist.subset (.cons _ (.cons _ (.cons _ (.cons_cons _ (.cons_cons _ (.cons_cons _ (.refl _))))))))
   refine ⟨hH155, ?_⟩
   refine d_end (by kernel_rfl) ?_
   have hS156 := hS154.front (.there (.there (.there (.there (.there .here)))))
   have hS157 := hS156.front (.there (.there (.there (.there (.there .here)))))
   have hS158 := hS157.front (.there (.there (.there (.there (.there .here)))))
   have hS159 := hS158.front (.there (.there (.there (.there .here))))
   have hS160 := hS159.front (.there (.there (.there (.there .here))))
   have hS161 := hS160.front (.there (.there (.there (.there (.there .here)))))
   exact ⟨_, _, _, _, _, _, _, _, _, _, le151, row_n (hS161.toHeld.own (.there .here)) hrc147 (by decide), hrc147, row_n (hS161.toHeld.own (.there (.there .here))) hrc136 (by decide), hrc136, hS161, rfl, rfl, rfl, rfl⟩
 ·rintro f167 w168 ⟨m38, b58, a59, n60, c61, cs62, a65, n66, c67, cs68, hm57, hn63, hrc64, hn69, hrc70, hS162, e163, e164, e165, e166⟩
  have le169 := hm57
  replace hk12 := RFleet.mono _ _ _ _ hk12 hm57
  replace hr7 := RSl.mono RStop.mono hr7 hm57
  replace hr11 := RSl.mono (RS.mono RInt.mono) hr11 hm57
  subst hn63
  subst hn69
  refine c_know (t := 1) e163 <| c_know (t := 2) e164 <| c_know (t := 3) e165 <| c_know (t := 4) e166 ?_
  clear e163 e164 e165 e166
  refine c_seq ?_
  obtain ⟨r172, hq173, hM⟩ := bnd_ok hM
  have hH202 := (hS162.weaken (.cons_cons _ (.cons_cons _ (.cons_cons _ (.cons_cons _ (.cons_cons _ (.cons_cons _ (.refl _)))))))).toHeld
  refine c_drawJ (k := 12) (fun f w => ∃ (m174 : Mem) (b195 : Nat) (a196 : Option Addr) (n197 : Nat) (c198 : Nat) (cs199 : List Value), m38 ≤ m174 ∧ n197 = (r172).length ∧ RCs 1 (RS 1 RInt) m174 cs199 r172 ∧ St w m174 (.box b195 53 [.slice none 0 0, .slice a196 n197 c198, .int .i64 f3.cap, .int .i64 f3.start, .int .i64 f3.back] :: .row (.slice a196 n197 c198) 26 1 cs199 :: .box b58 25 [.slice a65 r24.length c67, .slice a59 r36.length c61, .int .i64 f3.cap, .int .i64 f3.start, .int .i64 f3.back] :: .row (.slice a59 r36.length c61) 26 1 cs62 :: .row (.slice a65 r24.length c67) 34 5 cs68 :: .box b19 53 [.slice none 0 0, .slice none 0 0, .int .i64 0, .int .i64 0, .int .i64 0] :: .box b16 25 [.slice none 0 0, .slice none 0 0, .int .i64 0, .int .i64 0, .int .i64 0] :: .box b13 25 [.slice a4 f3.stops.length c6, .slice a8 f3.minutes.length c10, .int .i64 f3.cap, .int .i64 f3.start, .int .i64 f3.back] :: L) ∧ f 1 = .pointer (some ⟨b13, 0, none⟩) ∧ f 2 = .pointer (some ⟨b16, 0, none⟩) ∧ f 3 = .pointer (some ⟨b19, 0, none⟩) ∧ f 4 = .pointer (some ⟨b58, 0, none⟩) ∧ f 5 = .pointer (some ⟨b195, 0, none⟩)) (fun w => Held w m38 (.box b58 25 [.slice a65 r24.length c67, .slice a59 r36.length c61, .int .i64 f3.cap, .int .i64 f3.start, .int .i64 f3.back] :: .row (.slice a59 r36.length c61) 26 1 cs62 :: .row (.slice a65 r24.length c67) 34 5 cs68 :: .box b19 53 [.slice none 0 0, .slice none 0 0, .int .i64 0, .int .i64 0, .int .i64 0] :: .box b16 25 [.slice none 0 0, .slice none 0 0, .int .i64 0, .int .i64 0, .int .i64 0] :: .box b13 25 [.slice a4 f3.stops.length c6, .slice a8 f3.minutes.length c10, .int .i64 f3.cap, .int .i64 f3.start, .int .i64 f3.back] :: L)) mixed rfl ?_ ?_
  ·replace hH202 := hH202.drew1
   have hS203 := hS162.drew1
   refine d_v (i := 0) rfl (by kernel_rfl) rfl (r_fieldAddr fld25_1 (b := _) (o := _) rfl) hH202 ?_
   refine d_v (i := 1) rfl (by kernel_rfl) rfl (r_box ty23 (k := 1) (.there (.there (.there (.there (.there .here))))) rfl rfl rfl (v := .slice _ _ _) rfl) hH202 ?_
   refine d_v (i := 3) rfl (by kernel_rfl) rfl (r_fieldAddr fld25_2 (b := _) (o := _) rfl) hH202 ?_
   refine d_v (i := 4) rfl (by kernel_rfl) rfl (r_box ty3 (k := 2) (.there (.there (.there (.there (.there .here))))) rfl rfl rfl (v := .int .i64 _) rfl) hH202 ?_
   refine d_v (i := 5) rfl (by kernel_rfl) rfl (r_fieldAddr fld25_3 (b := _) (o := _) rfl) hH202 ?_
   refine d_v (i := 6) rfl (by kernel_rfl) rfl (r_box ty3 (k := 3) (.there (.there (.there (.there (.there .here))))) rfl rfl rfl (v := .int .i64 _) rfl) hH202 ?_
   refine d_v (i := 7) rfl (by kernel_rfl) rfl (r_fieldAddr fld25_4 (b := _) (o := _) rfl) hH202 ?_
   refine d_v (i := 8) rfl (by kernel_rfl) rfl (r_box ty3 (k := 4) (.there (.there (.there (.there (.there .here))))) rfl rfl rfl (v := .int .i64 _) rfl) hH202 ?_
   refine d_all (rs := [2, 10]) (by kernel_rfl) (by simp) (fun j hj o ho => ?_)
   simp only [List.mem_cons, List.not_mem_nil, or_false] at hj
   rcases hj with rfl | rfl
   ·cases ho
    refine wl_call ent37 (vals := [.slice _ _ _]) rfl (cg37 hS203 hr11 hq173) ?_
    rintro _ w212 ⟨m204, a206, n207, c208, cs209, rfl, hm205, rfl, hrc210, hS213⟩
    have le214 := Mem.le_trans le169 hm205
    have le215 := hm205
    replace hk12 := RFleet.mono _ _ _ _ hk12 hm205
    replace hr7 := RSl.mono RStop.mono hr7 hm205
    replace hr11 := RSl.mono (RS.mono RInt.mono) hr11 hm205
    replace hrc64 := RCs.mono (RS.mono RInt.mono) hrc64 hm205
    replace hrc70 := RCs.mono RStop.mono hrc70 hm205
    refine wl_nil ?_
    have hH216 := hS213.toHeld.mono le215 (List.Sublist.subset (.cons _ (.cons_cons _ (.cons_cons _ (.cons_cons _ (.cons_cons _ (.cons_cons _ (.cons_cons _ (.refl _)))))))))
    refine ⟨hH216, ?_⟩
    refine d_v (i := 9) rfl (by kernel_rfl) rfl (r_build ty53 st53 (ps := [(1, [.slice _ _ _]), (2, [.int .i64 _]), (3, [.int .i64 _]), (4, [.int .i64 _])]) rfl rfl (cs := [.slice _ _ _, .slice _ _ _, .int .i64 _, .int .i64 _, .int .i64 _]) rfl) hH216 ?_
    refine d_all (rs := [10]) (by kernel_rfl) (by simp) (fun j hj o ho => ?_)
    obtain rfl : j = 10 := by simpa using hj
    cases ho
    refine wl_alloc ty53 rfl hS213 ?_
    intro b217 w218 hS219
    refine wl_nil ?_
    have hH220 := hS219.toHeld.mono le215 (List.Sublist.subset (.cons _ (.cons _ (.cons_cons _ (.cons_cons _ (.cons_cons _ (.cons_cons _ (.cons_cons _ (.cons_cons _ (.refl _))))))))))
    refine ⟨hH220, ?_⟩
    refine d_all (rs := [11]) (by kernel_rfl) (by simp) (fun j hj o ho => ?_)
    obtain rfl : j = 11 := by simpa using hj
    cases ho
    refine wl_store_box ty53 hS219 rfl (v := .agg #[.slice _ _ _, .slice _ _ _, .int .i64 _, .int .i64 _, .int .i64 _]) rfl (vs := [.slice _ _ _, .slice _ _ _, .int .i64 _, .int .i64 _, .int .i64 _]) rfl rfl rfl .here (cs' := [.slice _ _ _, .slice _ _ _, .int .i64 _, .int .i64 _, .int .i64 _]) rfl rfl ?_
    intro w221 hS222
    refine wl_nil ?_
    have hH223 := hS222.toHeld.mono le215 (List.Sublist.subset (.cons _ (.cons _ (.cons_cons _ (.cons_cons _ (.cons_cons _ (.cons_cons _ (.cons_cons _ (.cons_cons _ (.refl _))))))))))
    refine ⟨hH223, ?_⟩
    refine d_end (by kernel_rfl) ?_
    exact ⟨_, _, _, _, _, _, le215, row_n (hS222.toHeld.own (.there .here)) hrc210 (by decide), hrc210, hS222, rfl, rfl, rfl, rfl, rfl⟩
   ·cases ho
    refine wl_alloc ty53 rfl hS203 ?_
    intro b224 w225 hS226
    refine wl_nil ?_
    have hH227 := hS226.toHeld.mono (Mem.le_refl _) (List.Sublist.subset (.cons _ (.cons_cons _ (.cons_cons _ (.cons_cons _ (.cons_cons _ (.cons_cons _ (.cons_cons _ (.refl _)))))))))
    refine ⟨hH227, ?_⟩
    refine d_all (rs := [2]) (by kernel_rfl) (by simp) (fun j hj o ho => ?_)
    obtain rfl : j = 2 := by simpa using hj
    cases ho
    refine wl_call ent37 (vals := [.slice _ _ _]) rfl (cg37 hS226 hr11 hq173) ?_
    rintro _ w236 ⟨m228, a230, n231, c232, cs233, rfl, hm229, rfl, hrc234, hS237⟩
    have le238 := Mem.le_trans le169 hm229
    have le239 := hm229
    replace hk12 := RFleet.mono _ _ _ _ hk12 hm229
    replace hr7 := RSl.mono RStop.mono hr7 hm229
    replace hr11 := RSl.mono (RS.mono RInt.mono) hr11 hm229
    replace hrc64 := RCs.mono (RS.mono RInt.mono) hrc64 hm229
    replace hrc70 := RCs.mono RStop.mono hrc70 hm229
    refine wl_nil ?_
    have hH240 := hS237.toHeld.mono le239 (List.Sublist.subset (.cons _ (.cons _ (.cons_cons _ (.cons_cons _ (.cons_cons _ (.cons_cons _ (.cons_cons _ (.cons_cons _ (.refl _))))))))))
    refine ⟨hH240, ?_⟩
    refine d_v (i := 9) rfl (by kernel_rfl) rfl (r_build ty53 st53 (ps := [(1, [.slice _ _ _]), (2, [.int .i64 _]), (3, [.int .i64 _]), (4, [.int .i64 _])]) rfl rfl (cs := [.slice _ _ _, .slice _ _ _, .int .i64 _, .int .i64 _, .int .i64 _]) rfl) hH240 ?_
    refine d_all (rs := [11]) (by kernel_rfl) (by simp) (fun j hj o ho => ?_)
    obtain rfl : j = 11 := by simpa using hj
    cases ho
    refine wl_store_box ty53 hS237 rfl (v := .agg #[.slice _ _ _, .slice _ _ _, .int .i64 _, .int .i64 _, .int .i64 _]) rfl (vs := [.slice _ _ _, .slice _ _ _, .int .i64 _, .int .i64 _, .int .i64 _]) rfl rfl rfl (.there .here) (cs' := [.slice _ _ _, .slice _ _ _, .int .i64 _, .int .i64 _, .int .i64 _]) rfl rfl ?_
    intro w241 hS242
    refine wl_nil ?_
    have hH243 := hS242.toHeld.mono le239 (List.Sublist.subset (.cons _ (.cons _ (.cons_cons _ (.cons_cons _ (.cons_cons _ (.cons_cons _ (.cons_cons _ (.cons_cons _ (.refl _))))))))))
    refine ⟨hH243, ?_⟩
    refine d_end (by kernel_rfl) ?_
    have hS244 := hS242.front (.there (.there (.there (.there (.there (.there (.there .here)))))))
    have hS245 := hS244.front (.there (.there (.there (.there (.there (.there (.there .here)))))))
    have hS246 := hS245.front (.there (.there (.there (.there (.there (.there (.there .here)))))))
    have hS247 := hS246.front (.there (.there (.there (.there (.there (.there (.there .here)))))))
    have hS248 := hS247.front (.there (.there (.there (.there (.there (.there (.there .here)))))))
    have hS249 := hS248.front (.there (.there (.there (.there (.there (.there (.there .here)))))))
    have hS250 := hS249.front (.there (.there (.there (.there (.there (.there .here))))))
    have hS251 := hS250.front (.there (.there (.there (.there (.there (.there (.there .here)))))))
    exact ⟨_, _, _, _, _, _, le239, row_n (hS251.toHeld.own (.there .here)) hrc234 (by decide), hrc234, hS251, rfl, rfl, rfl, rfl, rfl⟩
  ·rintro f258 w259 ⟨m174, b195, a196, n197, c198, cs199, hm194, hn200, hrc201, hS252, e253, e254, e255, e256, e257⟩
   have le260 := Mem.le_trans le169 hm194
   have le261 := hm194
   replace hk12 := RFleet.mono _ _ _ _ hk12 hm194
   replace hr7 := RSl.mono RStop.mono hr7 hm194
   replace hr11 := RSl.mono (RS.mono RInt.mono) hr11 hm194
   replace hrc64 := RCs.mono (RS.mono RInt.mono) hrc64 hm194
   replace hrc70 := RCs.mono RStop.mono hrc70 hm194
   subst hn200
   refine c_know (t := 1) e253 <| c_know (t := 2) e254 <| c_know (t := 3) e255 <| c_know (t := 4) e256 <| c_know (t := 5) e257 ?_
   clear e253 e254 e255 e256 e257
   refine c_seq <| c_seq <| c_region <| wl_h hS252.toHeld (r_fieldAddr fld25_0 (b := _) (o := _) rfl) <| wl_h hS252.toHeld (r_box ty22 (k := 0) (.there (.there (.there (.there (.there (.there (.there .here))))))) rfl rfl rfl (v := .slice _ _ _) rfl) ?_
   refine wl_h hS252.toHeld (r_len Tryz.underlying22 (a := _) (n := _) (c := _) rfl) <| wl_h hS252.toHeld (r_move (v := .int .i64 _) rfl) <| wl_nil <| c_block ?_
   have hS262 := hS252.weaken (.cons_cons _ (.cons_cons _ (.cons_cons _ (.cons_cons _ (.cons_cons _ (.cons_cons _ (.cons_cons _ (.cons _ (.refl _)))))))))
   have hS448 := hS262.nilRow 120 5
   have hrc449 : RCs 5 RStop m174 [] ([] : List Stop) := RCs.nil
   refine c_loop (fun k f w => ∃ (x450 : Int) (y451 : Int) (y452 : Int) (y453 : Int) (l454 : List Stop) (a455 : Option Addr) (n456 : Nat) (c457 : Nat) (cs458 : List Value), mg15_l0 fuel f3 r24 r36 r172 k x450 y451 y452 y453 l454 = some r ∧ n456 = l454.length ∧ RCs 5 RStop m174 cs458 l454 ∧ St w m174 (.row (.slice a455 n456 c457) 120 5 cs458 :: .box b195 53 [.slice a455 n456 c457, .slice a196 r172.length c198, .int .i64 y451, .int .i64 y452, .int .i64 y453] :: .row (.slice a196 r172.length c198) 26 1 cs199 :: .box b58 25 [.slice a65 r24.length c67, .slice a59 r36.length c61, .int .i64 f3.cap, .int .i64 f3.start, .int .i64 f3.back] :: .row (.slice a59 r36.length c61) 26 1 cs62 :: .row (.slice a65 r24.length c67) 34 5 cs68 :: .box b19 53 [.slice none 0 0, .slice none 0 0, .int .i64 0, .int .i64 0, .int .i64 0] :: .box b16 25 [.slice none 0 0, .slice none 0 0, .int .i64 0, .int .i64 0, .int .i64 0] :: L) ∧ f 2 = .pointer (some ⟨b16, 0, none⟩) ∧ f 3 = .pointer (some ⟨b19, 0, none⟩) ∧ f 4 = .pointer (some ⟨b58, 0, none⟩) ∧ f 5 = .pointer (some ⟨b195, 0, none⟩) ∧ f 32 = .slice a4 f3.stops.length c6 ∧ f 33 = .int .i64 ((f3.stops.length : Nat) : Int) ∧ f 34 = .int .i64 x450) fuel ⟨0, f3.cap, f3.start, f3.back, ([] : List Stop), none, 0, 0, [], hM, row_n (hS448.toHeld.own .here) hrc449 (by decide), hrc449, hS448, rfl, rfl, rfl, rfl, rfl, rfl, rfl⟩ ?_
   rintro k_0 f461 w462 ⟨x450, y451, y452, y453, l454, a455, n456, c457, cs458, hM, hn459, hrc460, hS464, e465, e466, e467, e468, e469, e470, e471⟩
   subst hn459
   refine c_know (t := 2) e465 <| c_know (t := 3) e466 <| c_know (t := 4) e467 <| c_know (t := 5) e468 <| c_know (t := 32) e469 ?_
   refine c_know (t := 33) e470 <| c_know (t := 34) e471 ?_
   clear e465 e466 e467 e468 e469 e470 e471
   rcases k_0 with _ | k_0
   · exact none_ne hM
   rw [mg15_l0] at hM
   refine c_seq <| c_region <| wl_h hS464.toHeld (r_lss (a := _) (b := _) rfl rfl) <| wl_nil <| c_seq <| c_cond (c := _) rfl (fun h472 => ?_) (fun h472 => ?_)
   ·replace hM := bif_t h472 hM
    refine c_skip <| c_seq <| c_block <| c_seq <| c_region ?_
    obtain ⟨x473, hx474, h475, h476, hM⟩ := getK_ok hM
    obtain ⟨b477, o478, rfl⟩ := RSl.elem_a hr7 hx474
    obtain ⟨cs479, hI480, hR481⟩ := RSl.elem_at hr7 hx474
    obtain rfl := hR481
    refine wl_h hS464.toHeld (r_indexAddr Tryz.underlying22 ty34 (b := _) (o := _) (n := _) (c := _) (i := x450) rfl rfl h475 (RSl.lt hr7 h476)) <| wl_h hS464.toHeld (r_imm ty34 (k := 0) hI480 rfl rfl rfl (v := .agg #[.int .i64 _, .int .i64 _, .int .i64 _, .int .i64 _, .int .i64 _]) rfl) <| wl_alloc ty34 rfl hS464 ?_
    intro b482 w483 hS484
    refine wl_store_box ty34 hS484 rfl (v := .agg #[.int .i64 _, .int .i64 _, .int .i64 _, .int .i64 _, .int .i64 _]) rfl (vs := [.int .i64 _, .int .i64 _, .int .i64 _, .int .i64 _, .int .i64 _]) rfl rfl rfl .here (cs' := [.int .i64 _, .int .i64 _, .int .i64 _, .int .i64 _, .int .i64 _]) rfl rfl ?_
    intro w485 hS486
    refine wl_nil <| c_region <| wl_h hS486.toHeld (r_fieldAddr fld53_0 (b := _) (o := _) rfl) <| wl_h hS486.toHeld (r_box ty51 (k := 0) (.there (.there .here)) rfl rfl rfl (v := .slice _ _ _) rfl) <| wl_h hS486.toHeld (r_box ty34 (k := 0) .here rfl rfl rfl (v := .agg #[.int .i64 _, .int .i64 _, .int .i64 _, .int .i64 _, .int .i64 _]) rfl) ?_
    refine wl_buildSlice Tryz.underlying51 ty120 rfl (by decide) (by decide) hS486 (ps := [(0, [.int .i64 _, .int .i64 _, .int .i64 _, .int .i64 _, .int .i64 _])]) rfl rfl (cs := [.int .i64 _, .int .i64 _, .int .i64 _, .int .i64 _, .int .i64 _]) rfl rfl (by decide) ?_
    intro b488 w489 hS490
    have hrc491 : RCs 5 RStop m174 [.int .i64 x473.load, .int .i64 x473.ready, .int .i64 x473.opn, .int .i64 x473.close, .int .i64 x473.serve] ([x473] : List Stop) := (RCs.cons (d := [.int .i64 x473.load, .int .i64 x473.ready, .int .i64 x473.opn, .int .i64 x473.close, .int .i64 x473.serve]) rfl rfl RCs.nil)
    obtain ⟨hc492, hM⟩ := chk_ok hM
    refine wl_append_src Tryz.underlying51 ty120 rfl (by decide) hS490 (a := _) (nn := _) (c := _) rfl (a2 := _) (k2 := _) (c2 := _) rfl (.there (.there .here)) (row_src (hS490.toHeld.own .here) (RCs.allOne RStop.one (by decide) hrc491)) (lim_b hc492 rfl) (lim_a hc492) ?_
    intro a493 c494 w495 hS496
    have hrc498 := RCs.append hrc460 hrc491
    generalize cs458 ++ [.int .i64 x473.load, .int .i64 x473.ready, .int .i64 x473.opn, .int .i64 x473.close, .int .i64 x473.serve] = cs499 at hS496 hrc498
    have hS500 := hS496.weaken (.cons_cons _ (.cons _ (.cons_cons _ (.cons_cons _ (.cons_cons _ (.cons_cons _ (.cons_cons _ (.cons_cons _ (.cons_cons _ (.cons_cons _ (.refl _)))))))))))
    refine wl_h hS500.toHeld (r_fieldAddr fld53_0 (b := _) (o := _) rfl) <| wl_store_box ty51 hS500 rfl (v := .slice _ _ _) rfl (vs := [.slice _ _ _]) rfl rfl rfl (.there (.there .here)) (cs' := [.slice _ _ _, .slice _ _ _, .int .i64 _, .int .i64 _, .int .i64 _]) rfl rfl ?_
    intro w501 hS502
    refine wl_nil <| c_nil <| q_norm <| c_region ?_
    obtain ⟨hc503, hM⟩ := chk_ok hM
    refine wl_h hS502.toHeld (r_add (a := _) (b := _) rfl rfl (ok_lo hc503) (ok_hi hc503)) <| wl_h hS502.toHeld (r_move (v := .int .i64 _) rfl) <| wl_nil <| c_nil <| q_loop ?_
    have hS504 := hS502.weaken (.cons_cons _ (.cons _ (.cons_cons _ (.cons_cons _ (.cons_cons _ (.cons_cons _ (.cons_cons _ (.cons_cons _ (.cons_cons _ (.refl _))))))))))
    exact ⟨k_0, Nat.lt_succ_self _, x450 + 1, y451, y452, y453, (l454 ++ [x473]), a493, (l454.length + 1), c494, cs499, hM, row_n (hS504.toHeld.own .here) hrc498 (by decide), hrc498, hS504, rfl, rfl, rfl, rfl, rfl, rfl, rfl⟩
   ·replace hM := bif_f h472 hM
    refine c_exit <| q_loopx <| q_hit <| c_seq ?_
    have hH513 := (hS464.weaken (.cons_cons _ (.cons_cons _ (.cons_cons _ (.cons_cons _ (.cons_cons _ (.cons_cons _ (.cons _ (.cons _ (.refl _)))))))))).toHeld
    refine c_draw (k := 4) (fun w => Held w m174 (.row (.slice a455 l454.length c457) 120 5 cs458 :: .box b195 53 [.slice a455 l454.length c457, .slice a196 r172.length c198, .int .i64 y451, .int .i64 y452, .int .i64 y453] :: .row (.slice a196 r172.length c198) 26 1 cs199 :: .box b58 25 [.slice a65 r24.length c67, .slice a59 r36.length c61, .int .i64 f3.cap, .int .i64 f3.start, .int .i64 f3.back] :: .row (.slice a59 r36.length c61) 26 1 cs62 :: .row (.slice a65 r24.length c67) 34 5 cs68 :: L)) mixed rfl ?_
    replace hH513 := hH513.drew1
    have hS514 := hS464.drew1
    refine d_v (i := 0) rfl (by kernel_rfl) rfl (r_box ty25 (k := 0) (.there (.there (.there .here))) rfl rfl rfl (v := .agg #[.slice _ _ _, .slice _ _ _, .int .i64 _, .int .i64 _, .int .i64 _]) rfl) hH513 ?_
    refine d_v (i := 1) rfl (by kernel_rfl) rfl (r_box ty53 (k := 0) (.there .here) rfl rfl rfl (v := .agg #[.slice _ _ _, .slice _ _ _, .int .i64 _, .int .i64 _, .int .i64 _]) rfl) hH513 ?_
    refine d_all (rs := [2]) (by kernel_rfl) (by simp) (fun j hj o ho => ?_)
    obtain rfl : j = 2 := by simpa using hj
    cases ho
    refine wl_store_box ty25 hS514 rfl (v := .agg #[.slice _ _ _, .slice _ _ _, .int .i64 _, .int .i64 _, .int .i64 _]) rfl (vs := [.slice _ _ _, .slice _ _ _, .int .i64 _, .int .i64 _, .int .i64 _]) rfl rfl rfl (.there (.there (.there (.there (.there (.there (.there .here))))))) (cs' := [.slice _ _ _, .slice _ _ _, .int .i64 _, .int .i64 _, .int .i64 _]) rfl rfl ?_
    intro w515 hS516
    refine wl_nil ?_
    have hH517 := hS516.toHeld.mono (Mem.le_refl _) (List.Sublist.subset (.cons_cons _ (.cons_cons _ (.cons_cons _ (.cons_cons _ (.cons_cons _ (.cons_cons _ (.cons _ (.cons _ (.refl _))))))))))
    refine ⟨hH517, ?_⟩
    refine d_all (rs := [3]) (by kernel_rfl) (by simp) (fun j hj o ho => ?_)
    obtain rfl : j = 3 := by simpa using hj
    cases ho
    refine wl_store_box ty53 hS516 rfl (v := .agg #[.slice _ _ _, .slice _ _ _, .int .i64 _, .int .i64 _, .int .i64 _]) rfl (vs := [.slice _ _ _, .slice _ _ _, .int .i64 _, .int .i64 _, .int .i64 _]) rfl rfl rfl (.there (.there (.there (.there (.there (.there .here)))))) (cs' := [.slice _ _ _, .slice _ _ _, .int .i64 _, .int .i64 _, .int .i64 _]) rfl rfl ?_
    intro w518 hS519
    refine wl_nil ?_
    have hH520 := hS519.toHeld.mono (Mem.le_refl _) (List.Sublist.subset (.cons_cons _ (.cons_cons _ (.cons_cons _ (.cons_cons _ (.cons_cons _ (.cons_cons _ (.cons _ (.cons _ (.refl _))))))))))
    refine ⟨hH520, ?_⟩
    refine d_end (by kernel_rfl) ?_
    refine c_ret <| ret_many rfl (.cell (v := .agg #[.slice _ _ _, .slice _ _ _, .int .i64 _, .int .i64 _, .int .i64 _]) rfl (ty25.run_loadVar (cs := [.slice _ _ _, .slice _ _ _, .int .i64 _, .int .i64 _, .int .i64 _]) (box_at (hS519.toHeld.own (.there (.there (.there (.there (.there (.there (.there .here))))))))) rfl) (.cell (v := .agg #[.slice _ _ _, .slice _ _ _, .int .i64 _, .int .i64 _, .int .i64 _]) rfl (ty53.run_loadVar (cs := [.slice _ _ _, .slice _ _ _, .int .i64 _, .int .i64 _, .int .i64 _]) (box_at (hS519.toHeld.own (.there (.there (.there (.there (.there (.there .here)))))))) rfl) .nil)) ?_
    obtain rfl := some_eq hM
    have hS521 := hS519.weaken (.cons_cons _ (.cons _ (.cons_cons _ (.cons _ (.cons_cons _ (.cons_cons _ (.cons _ (.cons _ (.refl _)))))))))
    have hS522 := hS521.front (.there .here)
    have hS523 := hS522.front (.there .here)
    have hS524 := hS523.front (.there (.there .here))
    have hS525 := hS524.front (.there (.there (.there .here)))
    exact ⟨m174, a65, r24.length, c67, cs68, a59, r36.length, c61, cs62, a455, l454.length, c457, cs458, a196, r172.length, c198, cs199, rfl, le260, row_n (hS525.toHeld.own .here) hrc70 (by decide), hrc70, row_n (hS525.toHeld.own (.there .here)) hrc64 (by decide), hrc64, row_n (hS525.toHeld.own (.there (.there .here))) hrc460 (by decide), hrc460, row_n (hS525.toHeld.own (.there (.there (.there .here)))) hrc201 (by decide), hrc201, hS525⟩

theorem cg103 {m : Mem} {L : List Atom} {w : World} {a1 : Option Addr} {n2 c3 : Nat} {s5 : List Int} {q6 : Int → Option Bool} {g7 : FuncId} {caps8 : List Value} (hS : St w m L) (hr4 : RSl 1 RInt m a1 n2 c3 s5) (he9 : Ent P0 g7) (hg10 : ∀ (m' : Mem) (E : List Atom) (w' : World) (x0 : Int) (r : Bool), m ≤ m' → St w' m' (E ++ L) → q6 x0 = some r → Calls P0 g7 (([.int .i64 x0] : List Value) ++ caps8).toArray w' (Ret fun v w'' => v = .bool r ∧ St w'' m' (E ++ L))) {fuel : Nat} {r : Int} (hM : mg103 fuel s5 q6 = some r) : Calls P0 103 [.slice a1 n2 c3, .func (.func g7) #[] caps8.toArray].toArray w (Ret fun v w' => v = .int .i64 r ∧ St w' m (L)) := by
 rw [mg103] at hM
 obtain rfl := hr4.1
 refine enter Tryz.func103 rfl Tryz.ntmps103 (Nat.le_of_ble_eq_true rfl) ?_
 refine c_seq <| c_region <| wl_h hS.toHeld (r_assign (v := .int .i64 _) rfl) <| wl_nil <| c_seq <| c_seq <| c_region <| wl_h hS.toHeld (r_move (v := .slice _ _ _) rfl) ?_
 refine wl_h hS.toHeld (r_len Tryz.underlying26 (a := _) (n := _) (c := _) rfl) <| wl_h hS.toHeld (r_move (v := .int .i64 _) rfl) <| wl_nil <| c_block <| c_loop (fun k f w => ∃ (x28 : Int), mg103_l0 fuel s5 q6 k x28 = some r ∧ St w m (L) ∧ f 0 = .slice a1 s5.length c3 ∧ f 1 = .func (.func g7) #[] caps8.toArray ∧ f 7 = .int .i64 ((s5.length : Nat) : Int) ∧ f 8 = .int .i64 x28) fuel ⟨0, hM, hS, rfl, rfl, rfl, rfl⟩ ?_
 rintro k_0 f29 w30 ⟨x28, hM, hS32, e33, e34, e35, e36⟩
 refine c_know (t := 0) e33 <| c_know (t := 1) e34 <| c_know (t := 7) e35 <| c_know (t := 8) e36 ?_
 clear e33 e34 e35 e36
 rcases k_0 with _ | k_0
 · exact none_ne hM
 rw [mg103_l0] at hM
 refine c_seq <| c_region <| wl_h hS32.toHeld (r_lss (a := _) (b := _) rfl rfl) <| wl_nil <| c_seq <| c_cond (c := _) rfl (fun h37 => ?_) (fun h37 => ?_)
 ·replace hM := bif_t h37 hM
  refine c_skip <| c_seq <| c_block <| c_seq <| c_region <| wl_h hS32.toHeld (r_move (v := .int .i64 _) rfl) ?_
  refine wl_h hS32.toHeld (r_assign (v := .int .i64 _) rfl) <| wl_nil <| c_seq <| c_region <| wl_h hS32.toHeld (r_move (v := .func (.func g7) #[] caps8.toArray) rfl) ?_
  refine wl_h hS32.toHeld (r_move (v := .slice _ _ _) rfl) <| wl_h hS32.toHeld (r_move (v := .int .i64 _) rfl) ?_
  obtain ⟨x38, hx39, h40, h41, hM⟩ := getK_ok hM
  obtain ⟨b42, o43, rfl⟩ := RSl.elem_a hr4 hx39
  obtain ⟨cs44, hI45, hR46⟩ := RSl.elem_at hr4 hx39
  obtain rfl := hR46
  refine wl_h hS32.toHeld (r_indexAddr Tryz.underlying26 ty3 (b := _) (o := _) (n := _) (c := _) (i := x28) rfl rfl h40 (RSl.lt hr4 h41)) <| wl_h hS32.toHeld (r_imm ty3 (k := 0) hI45 rfl rfl rfl (v := .int .i64 _) rfl) ?_
  obtain ⟨r47, hq48, hM⟩ := bnd_ok hM
  refine wl_callv he9 (caps := caps8) rfl (vals := [.int .i64 _]) rfl (hg10 _ [] _ _ _ (Mem.le_refl _) hS32  hq48) ?_
  rintro _ w49 ⟨rfl, hS50⟩
  simp only [List.cons_append, List.nil_append] at hS50
  refine wl_nil <| c_cond (c := _) rfl (fun h51 => ?_) (fun h51 => ?_)
  ·replace hM := bif_t h51 hM
   refine c_seq <| c_region <| wl_h hS50.toHeld (r_move (v := .int .i64 _) rfl) <| wl_h hS50.toHeld (r_assign (v := .int .i64 _) rfl) <| wl_nil <| c_ret <| q_retb ?_
   refine q_retl <| q_retb <| ret_tmp (t := 4) rfl (v := .int .i64 _) rfl ?_
   obtain rfl := some_eq hM
   exact ⟨rfl, hS50⟩
  ·replace hM := bif_f h51 hM
   refine c_skip <| c_nil <| q_norm <| c_region ?_
   obtain ⟨hc52, hM⟩ := chk_ok hM
   refine wl_h hS50.toHeld (r_add (a := _) (b := _) rfl rfl (ok_lo hc52) (ok_hi hc52)) <| wl_h hS50.toHeld (r_move (v := .int .i64 _) rfl) <| wl_nil <| c_nil <| q_loop ?_
   exact ⟨k_0, Nat.lt_succ_self _, x28 + 1, hM, hS50, rfl, rfl, rfl, rfl⟩
 ·replace hM := bif_f h37 hM
  refine c_exit <| q_loopx <| q_hit <| c_seq <| c_region <| wl_h hS32.toHeld (r_assign (v := .int .i64 _) rfl) ?_
  refine wl_nil <| c_ret <| ret_tmp (t := 4) rfl (v := .int .i64 _) rfl ?_
  obtain rfl := some_eq hM
  exact ⟨rfl, hS32⟩

theorem cg53 {m : Mem} {L : List Atom} {w : World} {a1 : Option Addr} {n2 c3 : Nat} {s5 : List Int} {q6 : Int → Option Bool} {g7 : FuncId} {caps8 : List Value} (hS : St w m L) (hr4 : RSl 1 RInt m a1 n2 c3 s5) (he9 : Ent P0 g7) (hg10 : ∀ (m' : Mem) (E : List Atom) (w' : World) (x0 : Int) (r : Bool), m ≤ m' → St w' m' (E ++ L) → q6 x0 = some r → Calls P0 g7 (([.int .i64 x0] : List Value) ++ caps8).toArray w' (Ret fun v w'' => v = .bool r ∧ St w'' m' (E ++ L))) {fuel : Nat} {r : Bool} (hM : mg53 fuel s5 q6 = some r) : Calls P0 53 [.slice a1 n2 c3, .func (.func g7) #[] caps8.toArray].toArray w (Ret fun v w' => v = .bool r ∧ St w' m (L)) := by
 rw [mg53] at hM
 obtain rfl := hr4.1
 refine enter Tryz.func53 rfl Tryz.ntmps53 (Nat.le_of_ble_eq_true rfl) ?_
 refine c_seq <| c_region <| wl_h hS.toHeld (r_assign (v := .bool _) rfl) <| wl_nil <| c_seq <| c_region <| wl_h hS.toHeld (r_move (v := .slice _ _ _) rfl) ?_
 refine wl_h hS.toHeld (r_move (v := .func (.func g7) #[] caps8.toArray) rfl) ?_
 obtain ⟨r11, hq12, hM⟩ := bnd_ok hM
 refine wl_call ent103 (vals := [.slice _ _ _, .func (.func g7) #[] caps8.toArray]) rfl (cg103 hS hr4 (q6 := q6) (caps8 := caps8) he9 (fun m' E w' x0 r hle hSt  hq => hg10 m' E w' x0 r hle hSt  hq) hq12) ?_
 rintro _ w14 ⟨rfl, hS15⟩
 refine wl_h hS15.toHeld (r_geq (a := _) (b := _) rfl rfl) <| wl_h hS15.toHeld (r_assign (v := .bool _) rfl) <| wl_nil <| c_ret <| ret_tmp (t := 4) rfl (v := .bool _) rfl ?_
 obtain rfl := some_eq hM
 exact ⟨rfl, hS15⟩

theorem cg59 {m : Mem} {L : List Atom} {w : World} {n1 : Int} {first2 : Int} {last3 : Int} (hS : St w m L)  {fuel : Nat} {r : Bool} (hM : mg59 fuel n1 first2 last3 = some r) : Calls P0 59 [.int .i64 n1, .int .i64 first2, .int .i64 last3].toArray w (Ret fun v w' => v = .bool r ∧ St w' m (L)) := by
 rw [mg59] at hM
 refine enter Tryz.func59 rfl Tryz.ntmps59 (Nat.le_of_ble_eq_true rfl) ?_
 refine c_seq <| c_region <| wl_h hS.toHeld (r_assign (v := .bool _) rfl) <| wl_nil <| c_seq <| c_region <| wl_h hS.toHeld (r_move (v := .int .i64 _) rfl) ?_
 refine wl_h hS.toHeld (r_move (v := .int .i64 _) rfl) <| wl_h hS.toHeld (r_geq (a := _) (b := _) rfl rfl) <| wl_h hS.toHeld (r_move (v := .bool _) rfl) <| wl_split rfl (c := _) (t := 10) (fun h4 => ?_) (fun h4 => ?_)
 ·replace hM := bif_t h4 hM
  refine wl_on (t := 10) rfl rfl ?_
  refine wl_h hS.toHeld (r_move (v := .int .i64 _) rfl) <| wl_on (t := 10) rfl rfl ?_
  refine wl_h hS.toHeld (r_move (v := .int .i64 _) rfl) <| wl_on (t := 10) rfl rfl ?_
  refine wl_h hS.toHeld (r_leq (a := _) (b := _) rfl rfl) <| wl_h hS.toHeld (r_pick_t rfl (v := .bool _) rfl) <| wl_h hS.toHeld (r_assign (v := .bool _) rfl) <| wl_nil <| c_ret <| ret_tmp (t := 6) rfl (v := .bool _) rfl ?_
  obtain rfl := some_eq hM
  exact ⟨rfl, hS⟩
 ·replace hM := bif_f h4 hM
  refine wl_off (t := 10) (b := false) rfl rfl rfl ?_
  refine wl_off (t := 10) (b := false) rfl rfl rfl ?_
  refine wl_off (t := 10) (b := false) rfl rfl rfl ?_
  refine wl_h hS.toHeld (r_pick_f rfl (v := .bool _) rfl) <| wl_h hS.toHeld (r_assign (v := .bool _) rfl) <| wl_nil <| c_ret <| ret_tmp (t := 6) rfl (v := .bool _) rfl ?_
  obtain rfl := some_eq hM
  exact ⟨rfl, hS⟩

theorem cg104 {m : Mem} {L : List Atom} {w : World} {n1 : Int} (hS : St w m L)  {fuel : Nat} {r : Bool} (hM : mg104 fuel n1 = some r) : Calls P0 104 [.int .i64 n1].toArray w (Ret fun v w' => v = .bool r ∧ St w' m (L)) := by
 rw [mg104] at hM
 refine enter Tryz.func104 rfl Tryz.ntmps104 (Nat.le_of_ble_eq_true rfl) ?_
 refine c_seq <| c_region <| wl_h hS.toHeld (r_assign (v := .bool _) rfl) <| wl_nil <| c_seq <| c_region <| wl_h hS.toHeld (r_move (v := .int .i64 _) rfl) ?_
 obtain ⟨r2, hq3, hM⟩ := bnd_ok hM
 refine wl_call ent59 (vals := [.int .i64 _, .int .i64 _, .int .i64 _]) rfl (cg59 hS hq3) ?_
 rintro _ w5 ⟨rfl, hS6⟩
 refine wl_h hS6.toHeld (r_not (b := _) rfl) <| wl_h hS6.toHeld (r_assign (v := .bool _) rfl) <| wl_nil <| c_ret <| ret_tmp (t := 2) rfl (v := .bool _) rfl ?_
 obtain rfl := some_eq hM
 exact ⟨rfl, hS6⟩

theorem cg60 {m : Mem} {L : List Atom} {w : World} {a1 : Option Addr} {n2 c3 : Nat} {l5 : List Int} (hS : St w m L) (hr4 : RSl 1 RInt m a1 n2 c3 l5) {fuel : Nat} {r : Bool} (hM : mg60 fuel l5 = some r) : Calls P0 60 [.slice a1 n2 c3].toArray w (Ret fun v w' => v = .bool r ∧ St w' m (L)) := by
 rw [mg60] at hM
 obtain rfl := hr4.1
 refine enter Tryz.func60 rfl Tryz.ntmps60 (Nat.le_of_ble_eq_true rfl) ?_
 refine c_seq <| c_region <| wl_h hS.toHeld (r_assign (v := .bool _) rfl) <| wl_nil <| c_seq <| c_region <| wl_h hS.toHeld (r_move (v := .slice _ _ _) rfl) ?_
 obtain ⟨r6, hq7, hM⟩ := bnd_ok hM
 refine wl_call ent53 (vals := [.slice _ _ _, .func (.func 104) #[] #[]]) rfl (cg53 hS hr4 (q6 := (mg104 fuel)) (caps8 := []) ent104 (fun m' E w' x0 r hle hSt  hq => cg104 hSt  hq) hq7) ?_
 rintro _ w9 ⟨rfl, hS10⟩
 refine wl_h hS10.toHeld (r_not (b := _) rfl) <| wl_h hS10.toHeld (r_assign (v := .bool _) rfl) <| wl_nil <| c_ret <| ret_tmp (t := 2) rfl (v := .bool _) rfl ?_
 obtain rfl := some_eq hM
 exact ⟨rfl, hS10⟩

theorem cg105 {m : Mem} {L : List Atom} {w : World} {a1 : Option Addr} {n2 c3 : Nat} {s5 : List Stop} {q6 : Stop → Option Bool} {g7 : FuncId} {caps8 : List Value} (hS : St w m L) (hr4 : RSl 5 RStop m a1 n2 c3 s5) (he9 : Ent P0 g7) (hg10 : ∀ (m' : Mem) (E : List Atom) (w' : World) (cs0 : List Value) (x0 : Stop) (r : Bool), m ≤ m' → St w' m' (E ++ L) → RStop m' cs0 x0 → q6 x0 = some r → Calls P0 g7 (([.agg cs0.toArray] : List Value) ++ caps8).toArray w' (Ret fun v w'' => v = .bool r ∧ St w'' m' (E ++ L))) {fuel : Nat} {r : Int} (hM : mg105 fuel s5 q6 = some r) : Calls P0 105 [.slice a1 n2 c3, .func (.func g7) #[] caps8.toArray].toArray w (Ret fun v w' => v = .int .i64 r ∧ St w' m (L)) := by
 rw [mg105] at hM
 obtain rfl := hr4.1
 refine enter Tryz.func105 rfl Tryz.ntmps105 (Nat.le_of_ble_eq_true rfl) ?_
 refine c_seq <| c_region <| wl_h hS.toHeld (r_assign (v := .int .i64 _) rfl) <| wl_nil <| c_seq <| c_seq <| c_region <| wl_h hS.toHeld (r_move (v := .slice _ _ _) rfl) ?_
 refine wl_h hS.toHeld (r_len Tryz.underlying22 (a := _) (n := _) (c := _) rfl) <| wl_h hS.toHeld (r_move (v := .int .i64 _) rfl) <| wl_nil <| c_block <| c_loop (fun k f w => ∃ (x28 : Int), mg105_l0 fuel s5 q6 k x28 = some r ∧ St w m (L) ∧ f 0 = .slice a1 s5.length c3 ∧ f 1 = .func (.func g7) #[] caps8.toArray ∧ f 7 = .int .i64 ((s5.length : Nat) : Int) ∧ f 8 = .int .i64 x28) fuel ⟨0, hM, hS, rfl, rfl, rfl, rfl⟩ ?_
 rintro k_0 f29 w30 ⟨x28, hM, hS32, e33, e34, e35, e36⟩
 refine c_know (t := 0) e33 <| c_know (t := 1) e34 <| c_know (t := 7) e35 <| c_know (t := 8) e36 ?_
 clear e33 e34 e35 e36
 rcases k_0 with _ | k_0
 · exact none_ne hM
 rw [mg105_l0] at hM
 refine c_seq <| c_region <| wl_h hS32.toHeld (r_lss (a := _) (b := _) rfl rfl) <| wl_nil <| c_seq <| c_cond (c := _) rfl (fun h37 => ?_) (fun h37 => ?_)
 ·replace hM := bif_t h37 hM
  refine c_skip <| c_seq <| c_block <| c_seq <| c_region <| wl_h hS32.toHeld (r_move (v := .int .i64 _) rfl) ?_
  refine wl_h hS32.toHeld (r_assign (v := .int .i64 _) rfl) <| wl_nil <| c_seq <| c_region <| wl_h hS32.toHeld (r_move (v := .func (.func g7) #[] caps8.toArray) rfl) ?_
  refine wl_h hS32.toHeld (r_move (v := .slice _ _ _) rfl) <| wl_h hS32.toHeld (r_move (v := .int .i64 _) rfl) ?_
  obtain ⟨x38, hx39, h40, h41, hM⟩ := getK_ok hM
  obtain ⟨b42, o43, rfl⟩ := RSl.elem_a hr4 hx39
  obtain ⟨cs44, hI45, hR46⟩ := RSl.elem_at hr4 hx39
  obtain rfl := hR46
  refine wl_h hS32.toHeld (r_indexAddr Tryz.underlying22 ty34 (b := _) (o := _) (n := _) (c := _) (i := x28) rfl rfl h40 (RSl.lt hr4 h41)) <| wl_h hS32.toHeld (r_imm ty34 (k := 0) hI45 rfl rfl rfl (v := .agg #[.int .i64 _, .int .i64 _, .int .i64 _, .int .i64 _, .int .i64 _]) rfl) ?_
  obtain ⟨r47, hq48, hM⟩ := bnd_ok hM
  refine wl_callv he9 (caps := caps8) rfl (vals := [.agg #[.int .i64 _, .int .i64 _, .int .i64 _, .int .i64 _, .int .i64 _]]) rfl (hg10 _ [] _ _ _ _ (Mem.le_refl _) hS32 rfl hq48) ?_
  rintro _ w49 ⟨rfl, hS50⟩
  simp only [List.cons_append, List.nil_append] at hS50
  refine wl_nil <| c_cond (c := _) rfl (fun h51 => ?_) (fun h51 => ?_)
  ·replace hM := bif_t h51 hM
   refine c_seq <| c_region <| wl_h hS50.toHeld (r_move (v := .int .i64 _) rfl) <| wl_h hS50.toHeld (r_assign (v := .int .i64 _) rfl) <| wl_nil <| c_ret <| q_retb ?_
   refine q_retl <| q_retb <| ret_tmp (t := 4) rfl (v := .int .i64 _) rfl ?_
   obtain rfl := some_eq hM
   exact ⟨rfl, hS50⟩
  ·replace hM := bif_f h51 hM
   refine c_skip <| c_nil <| q_norm <| c_region ?_
   obtain ⟨hc52, hM⟩ := chk_ok hM
   refine wl_h hS50.toHeld (r_add (a := _) (b := _) rfl rfl (ok_lo hc52) (ok_hi hc52)) <| wl_h hS50.toHeld (r_move (v := .int .i64 _) rfl) <| wl_nil <| c_nil <| q_loop ?_
   exact ⟨k_0, Nat.lt_succ_self _, x28 + 1, hM, hS50, rfl, rfl, rfl, rfl⟩
 ·replace hM := bif_f h37 hM
  refine c_exit <| q_loopx <| q_hit <| c_seq <| c_region <| wl_h hS32.toHeld (r_assign (v := .int .i64 _) rfl) ?_
  refine wl_nil <| c_ret <| ret_tmp (t := 4) rfl (v := .int .i64 _) rfl ?_
  obtain rfl := some_eq hM
  exact ⟨rfl, hS32⟩

theorem cg61 {m : Mem} {L : List Atom} {w : World} {a1 : Option Addr} {n2 c3 : Nat} {s5 : List Stop} {q6 : Stop → Option Bool} {g7 : FuncId} {caps8 : List Value} (hS : St w m L) (hr4 : RSl 5 RStop m a1 n2 c3 s5) (he9 : Ent P0 g7) (hg10 : ∀ (m' : Mem) (E : List Atom) (w' : World) (cs0 : List Value) (x0 : Stop) (r : Bool), m ≤ m' → St w' m' (E ++ L) → RStop m' cs0 x0 → q6 x0 = some r → Calls P0 g7 (([.agg cs0.toArray] : List Value) ++ caps8).toArray w' (Ret fun v w'' => v = .bool r ∧ St w'' m' (E ++ L))) {fuel : Nat} {r : Bool} (hM : mg61 fuel s5 q6 = some r) : Calls P0 61 [.slice a1 n2 c3, .func (.func g7) #[] caps8.toArray].toArray w (Ret fun v w' => v = .bool r ∧ St w' m (L)) := by
 rw [mg61] at hM
 obtain rfl := hr4.1
 refine enter Tryz.func61 rfl Tryz.ntmps61 (Nat.le_of_ble_eq_true rfl) ?_
 refine c_seq <| c_region <| wl_h hS.toHeld (r_assign (v := .bool _) rfl) <| wl_nil <| c_seq <| c_region <| wl_h hS.toHeld (r_move (v := .slice _ _ _) rfl) ?_
 refine wl_h hS.toHeld (r_move (v := .func (.func g7) #[] caps8.toArray) rfl) ?_
 obtain ⟨r11, hq12, hM⟩ := bnd_ok hM
 refine wl_call ent105 (vals := [.slice _ _ _, .func (.func g7) #[] caps8.toArray]) rfl (cg105 hS hr4 (q6 := q6) (caps8 := caps8) he9 (fun m' E w' cs0 x0 r hle hSt h0 hq => hg10 m' E w' cs0 x0 r hle hSt h0 hq) hq12) ?_
 rintro _ w14 ⟨rfl, hS15⟩
 refine wl_h hS15.toHeld (r_geq (a := _) (b := _) rfl rfl) <| wl_h hS15.toHeld (r_assign (v := .bool _) rfl) <| wl_nil <| c_ret <| ret_tmp (t := 4) rfl (v := .bool _) rfl ?_
 obtain rfl := some_eq hM
 exact ⟨rfl, hS15⟩

theorem cg62 {m : Mem} {L : List Atom} {w : World} {cs1 : List Value} {s3 : Stop} (hS : St w m L) (hx2 : RStop m cs1 s3) {fuel : Nat} {r : Bool} (hM : mg62 fuel s3 = some r) : Calls P0 62 [.agg cs1.toArray].toArray w (Ret fun v w' => v = .bool r ∧ St w' m (L)) := by
 rw [mg62] at hM
 obtain rfl := hx2
 refine enter Tryz.func62 rfl Tryz.ntmps62 (Nat.le_of_ble_eq_true rfl) ?_
 refine c_seq <| c_region <| wl_box hS (v := .agg #[.int .i64 _, .int .i64 _, .int .i64 _, .int .i64 _, .int .i64 _]) rfl (cs := [.int .i64 _, .int .i64 _, .int .i64 _, .int .i64 _, .int .i64 _]) rfl ?_
 intro b4 w5 hS6
 refine wl_h hS6.toHeld (r_assign (v := .bool _) rfl) <| wl_nil <| c_seq <| c_region <| wl_h hS6.toHeld (r_fieldAddr fld34_0 (b := _) (o := _) rfl) ?_
 refine wl_h hS6.toHeld (r_box ty3 (k := 0) .here rfl rfl rfl (v := .int .i64 _) rfl) ?_
 obtain ⟨r7, hq8, hM⟩ := bnd_ok hM
 refine wl_call ent59 (vals := [.int .i64 _, .int .i64 _, .int .i64 _]) rfl (cg59 hS6 hq8) ?_
 rintro _ w10 ⟨rfl, hS11⟩
 refine wl_h hS11.toHeld (r_not (b := _) rfl) <| wl_h hS11.toHeld (r_move (v := .bool _) rfl) <| wl_split rfl (c := _) (t := 7) (fun h12 => ?_) (fun h12 => ?_)
 ·replace hM := bif_t h12 hM
  refine wl_off (t := 7) (b := true) rfl rfl rfl ?_
  refine wl_off (t := 7) (b := true) rfl rfl rfl ?_
  refine wl_off (t := 7) (b := true) rfl rfl rfl ?_
  refine wl_off (t := 7) (b := true) rfl rfl rfl ?_
  refine wl_off (t := 7) (b := true) rfl rfl rfl ?_
  refine wl_off (t := 7) (b := true) rfl rfl rfl ?_
  refine wl_off (t := 7) (b := true) rfl rfl rfl ?_
  refine wl_off (t := 7) (b := true) rfl rfl rfl ?_
  refine wl_off (t := 7) (b := true) rfl rfl rfl ?_
  refine wl_h hS11.toHeld (r_pick_t rfl (v := .bool _) rfl) <| wl_h hS11.toHeld (r_move (v := .bool _) rfl) <| wl_off (t := 18) (b := true) rfl rfl rfl ?_
  refine wl_off (t := 18) (b := true) rfl rfl rfl ?_
  refine wl_off (t := 18) (b := true) rfl rfl rfl ?_
  refine wl_off (t := 18) (b := true) rfl rfl rfl ?_
  refine wl_h hS11.toHeld (r_pick_t rfl (v := .bool _) rfl) <| wl_h hS11.toHeld (r_move (v := .bool _) rfl) <| wl_off (t := 24) (b := true) rfl rfl rfl ?_
  refine wl_off (t := 24) (b := true) rfl rfl rfl ?_
  refine wl_off (t := 24) (b := true) rfl rfl rfl ?_
  refine wl_off (t := 24) (b := true) rfl rfl rfl ?_
  refine wl_off (t := 24) (b := true) rfl rfl rfl ?_
  refine wl_h hS11.toHeld (r_pick_t rfl (v := .bool _) rfl) <| wl_h hS11.toHeld (r_assign (v := .bool _) rfl) <| wl_nil <| c_ret <| ret_tmp (t := 2) rfl (v := .bool _) rfl ?_
  obtain rfl := some_eq hM
  have hS13 := hS11.weaken (.cons _ (.refl _))
  exact ⟨rfl, hS13⟩
 ·replace hM := bif_f h12 hM
  refine wl_on (t := 7) rfl rfl ?_
  refine wl_h hS11.toHeld (r_fieldAddr fld34_1 (b := _) (o := _) rfl) <| wl_on (t := 7) rfl rfl ?_
  refine wl_h hS11.toHeld (r_box ty3 (k := 1) .here rfl rfl rfl (v := .int .i64 _) rfl) <| wl_on (t := 7) rfl rfl ?_
  refine wl_h hS11.toHeld (r_fieldAddr fld34_2 (b := _) (o := _) rfl) <| wl_on (t := 7) rfl rfl ?_
  refine wl_h hS11.toHeld (r_box ty3 (k := 2) .here rfl rfl rfl (v := .int .i64 _) rfl) <| wl_on (t := 7) rfl rfl ?_
  refine wl_h hS11.toHeld (r_fieldAddr fld34_3 (b := _) (o := _) rfl) <| wl_on (t := 7) rfl rfl ?_
  refine wl_h hS11.toHeld (r_box ty3 (k := 3) .here rfl rfl rfl (v := .int .i64 _) rfl) <| wl_on (t := 7) rfl rfl ?_
  refine wl_buildSlice Tryz.underlying26 ty3 rfl (by decide) (by decide) hS11 (ps := [(0, [.int .i64 _]), (1, [.int .i64 _]), (2, [.int .i64 _])]) rfl rfl (cs := [.int .i64 _, .int .i64 _, .int .i64 _]) rfl rfl (by decide) ?_
  intro b15 w16 hS17
  have hrc18 : RCs 1 RInt m [.int .i64 s3.ready, .int .i64 s3.opn, .int .i64 s3.close] ([s3.ready, s3.opn, s3.close] : List Int) := (RCs.cons (d := [.int .i64 s3.ready]) rfl rfl (RCs.cons (d := [.int .i64 s3.opn]) rfl rfl (RCs.cons (d := [.int .i64 s3.close]) rfl rfl RCs.nil)))
  refine wl_on (t := 7) rfl rfl ?_
  obtain ⟨m19, hm20, hS21, hr22, back23⟩ := hS17.lend .here hrc18 RInt.mono (by decide)
  have le24 := hm20
  obtain ⟨r25, hq26, hM⟩ := bnd_ok hM
  refine wl_call ent60 (vals := [.slice _ _ _]) rfl (cg60 hS21 hr22 hq26) ?_
  rintro _ w28 ⟨rfl, hS29⟩
  have hS30 := back23 _ _ hS29
  refine wl_on (t := 7) rfl rfl ?_
  refine wl_h hS30.toHeld (r_not (b := _) rfl) <| wl_h hS30.toHeld (r_pick_f rfl (v := .bool _) rfl) <| wl_h hS30.toHeld (r_move (v := .bool _) rfl) <| wl_split rfl (c := _) (t := 18) (fun h31 => ?_) (fun h31 => ?_)
  ·replace hM := bif_t h31 hM
   refine wl_off (t := 18) (b := true) rfl rfl rfl ?_
   refine wl_off (t := 18) (b := true) rfl rfl rfl ?_
   refine wl_off (t := 18) (b := true) rfl rfl rfl ?_
   refine wl_off (t := 18) (b := true) rfl rfl rfl ?_
   refine wl_h hS30.toHeld (r_pick_t rfl (v := .bool _) rfl) <| wl_h hS30.toHeld (r_move (v := .bool _) rfl) <| wl_off (t := 24) (b := true) rfl rfl rfl ?_
   refine wl_off (t := 24) (b := true) rfl rfl rfl ?_
   refine wl_off (t := 24) (b := true) rfl rfl rfl ?_
   refine wl_off (t := 24) (b := true) rfl rfl rfl ?_
   refine wl_off (t := 24) (b := true) rfl rfl rfl ?_
   refine wl_h hS30.toHeld (r_pick_t rfl (v := .bool _) rfl) <| wl_h hS30.toHeld (r_assign (v := .bool _) rfl) <| wl_nil <| c_ret <| ret_tmp (t := 2) rfl (v := .bool _) rfl ?_
   obtain rfl := some_eq hM
   have hS32 := hS30.weaken (.cons _ (.cons _ (.refl _)))
   exact ⟨rfl, hS32⟩
  ·replace hM := bif_f h31 hM
   refine wl_on (t := 18) rfl rfl ?_
   refine wl_h hS30.toHeld (r_fieldAddr fld34_4 (b := _) (o := _) rfl) <| wl_on (t := 18) rfl rfl ?_
   refine wl_h hS30.toHeld (r_box ty3 (k := 4) (.there .here) rfl rfl rfl (v := .int .i64 _) rfl) <| wl_on (t := 18) rfl rfl ?_
   obtain ⟨r33, hq34, hM⟩ := bnd_ok hM
   refine wl_call ent59 (vals := [.int .i64 _, .int .i64 _, .int .i64 _]) rfl (cg59 hS30 hq34) ?_
   rintro _ w36 ⟨rfl, hS37⟩
   refine wl_on (t := 18) rfl rfl ?_
   refine wl_h hS37.toHeld (r_not (b := _) rfl) <| wl_h hS37.toHeld (r_pick_f rfl (v := .bool _) rfl) <| wl_h hS37.toHeld (r_move (v := .bool _) rfl) <| wl_split rfl (c := _) (t := 24) (fun h38 => ?_) (fun h38 => ?_)
   ·replace hM := bif_t h38 hM
    refine wl_off (t := 24) (b := true) rfl rfl rfl ?_
    refine wl_off (t := 24) (b := true) rfl rfl rfl ?_
    refine wl_off (t := 24) (b := true) rfl rfl rfl ?_
    refine wl_off (t := 24) (b := true) rfl rfl rfl ?_
    refine wl_off (t := 24) (b := true) rfl rfl rfl ?_
    refine wl_h hS37.toHeld (r_pick_t rfl (v := .bool _) rfl) <| wl_h hS37.toHeld (r_assign (v := .bool _) rfl) <| wl_nil <| c_ret <| ret_tmp (t := 2) rfl (v := .bool _) rfl ?_
    obtain rfl := some_eq hM
    have hS39 := hS37.weaken (.cons _ (.cons _ (.refl _)))
    exact ⟨rfl, hS39⟩
   ·replace hM := bif_f h38 hM
    refine wl_on (t := 24) rfl rfl ?_
    refine wl_h hS37.toHeld (r_fieldAddr fld34_2 (b := _) (o := _) rfl) <| wl_on (t := 24) rfl rfl ?_
    refine wl_h hS37.toHeld (r_box ty3 (k := 2) (.there .here) rfl rfl rfl (v := .int .i64 _) rfl) <| wl_on (t := 24) rfl rfl ?_
    refine wl_h hS37.toHeld (r_fieldAddr fld34_3 (b := _) (o := _) rfl) <| wl_on (t := 24) rfl rfl ?_
    refine wl_h hS37.toHeld (r_box ty3 (k := 3) (.there .here) rfl rfl rfl (v := .int .i64 _) rfl) <| wl_on (t := 24) rfl rfl ?_
    refine wl_h hS37.toHeld (r_gtr (a := _) (b := _) rfl rfl) <| wl_h hS37.toHeld (r_pick_f rfl (v := .bool _) rfl) <| wl_h hS37.toHeld (r_assign (v := .bool _) rfl) <| wl_nil <| c_ret <| ret_tmp (t := 2) rfl (v := .bool _) rfl ?_
    obtain rfl := some_eq hM
    have hS40 := hS37.weaken (.cons _ (.cons _ (.refl _)))
    exact ⟨rfl, hS40⟩

theorem cg63 {m : Mem} {L : List Atom} {w : World} {n1 : Int} (hS : St w m L)  {fuel : Nat} {r : Bool} (hM : mg63 fuel n1 = some r) : Calls P0 63 [.int .i64 n1].toArray w (Ret fun v w' => v = .bool r ∧ St w' m (L)) := by
 rw [mg63] at hM
 refine enter Tryz.func63 rfl Tryz.ntmps63 (Nat.le_of_ble_eq_true rfl) ?_
 refine c_seq <| c_region <| wl_h hS.toHeld (r_assign (v := .bool _) rfl) <| wl_nil <| c_seq <| c_region <| wl_h hS.toHeld (r_move (v := .int .i64 _) rfl) ?_
 obtain ⟨r2, hq3, hM⟩ := bnd_ok hM
 refine wl_call ent59 (vals := [.int .i64 _, .int .i64 _, .int .i64 _]) rfl (cg59 hS hq3) ?_
 rintro _ w5 ⟨rfl, hS6⟩
 refine wl_h hS6.toHeld (r_not (b := _) rfl) <| wl_h hS6.toHeld (r_assign (v := .bool _) rfl) <| wl_nil <| c_ret <| ret_tmp (t := 2) rfl (v := .bool _) rfl ?_
 obtain rfl := some_eq hM
 exact ⟨rfl, hS6⟩

theorem cg18 {m : Mem} {L : List Atom} {w : World} {cs1 : List Value} {f3 : Fleet} (hS : St w m L) (hx2 : RFleet m cs1 f3) {fuel : Nat} {r : Int} (hM : mg18 fuel f3 = some r) : Calls P0 18 [.agg cs1.toArray].toArray w (Ret fun v w' => v = .int .i64 r ∧ St w' m (L)) := by
 rw [mg18] at hM
 have hk12 := hx2
 obtain ⟨a4, n5, c6, a8, n9, c10, rfl, hr7, hr11⟩ := hx2
 obtain rfl := hr7.1
 obtain rfl := hr11.1
 refine enter Tryz.func18 rfl Tryz.ntmps18 (Nat.le_of_ble_eq_true rfl) ?_
 refine c_seq <| c_region <| wl_box hS (v := .agg #[.slice _ _ _, .slice _ _ _, .int .i64 _, .int .i64 _, .int .i64 _]) rfl (cs := [.slice _ _ _, .slice _ _ _, .int .i64 _, .int .i64 _, .int .i64 _]) rfl ?_
 intro b13 w14 hS15
 refine wl_h hS15.toHeld (r_assign (v := .int .i64 _) rfl) <| wl_nil <| c_seq <| c_seq <| c_region <| wl_h hS15.toHeld (r_fieldAddr fld25_0 (b := _) (o := _) rfl) ?_
 refine wl_h hS15.toHeld (r_box ty22 (k := 0) .here rfl rfl rfl (v := .slice _ _ _) rfl) <| wl_h hS15.toHeld (r_len Tryz.underlying22 (a := _) (n := _) (c := _) rfl) ?_
 obtain ⟨r16, hq17, hM⟩ := bnd_ok hM
 refine wl_call ent59 (vals := [.int .i64 _, .int .i64 _, .int .i64 _]) rfl (cg59 hS15 hq17) ?_
 rintro _ w19 ⟨rfl, hS20⟩
 refine wl_h hS20.toHeld (r_not (b := _) rfl) <| wl_nil <| c_cond (c := _) rfl (fun h21 => ?_) (fun h21 => ?_)
 ·replace hM := bif_t h21 hM
  refine c_seq <| c_region <| wl_h hS20.toHeld (r_assign (v := .int .i64 _) rfl) <| wl_nil <| c_ret <| ret_tmp (t := 2) rfl (v := .int .i64 _) rfl ?_
  obtain rfl := some_eq hM
  have hS22 := hS20.weaken (.cons _ (.refl _))
  exact ⟨rfl, hS22⟩
 ·replace hM := bif_f h21 hM
  refine c_skip <| c_seq <| c_seq <| c_region <| wl_h hS20.toHeld (r_fieldAddr fld25_2 (b := _) (o := _) rfl) ?_
  refine wl_h hS20.toHeld (r_box ty3 (k := 2) .here rfl rfl rfl (v := .int .i64 _) rfl) ?_
  obtain ⟨r23, hq24, hM⟩ := bnd_ok hM
  refine wl_call ent59 (vals := [.int .i64 _, .int .i64 _, .int .i64 _]) rfl (cg59 hS20 hq24) ?_
  rintro _ w26 ⟨rfl, hS27⟩
  refine wl_h hS27.toHeld (r_not (b := _) rfl) <| wl_h hS27.toHeld (r_move (v := .bool _) rfl) <| wl_split rfl (c := _) (t := 14) (fun h28 => ?_) (fun h28 => ?_)
  ·replace hM := bif_t h28 hM
   refine wl_off (t := 14) (b := true) rfl rfl rfl ?_
   refine wl_off (t := 14) (b := true) rfl rfl rfl ?_
   refine wl_off (t := 14) (b := true) rfl rfl rfl ?_
   refine wl_off (t := 14) (b := true) rfl rfl rfl ?_
   refine wl_off (t := 14) (b := true) rfl rfl rfl ?_
   refine wl_off (t := 14) (b := true) rfl rfl rfl ?_
   refine wl_off (t := 14) (b := true) rfl rfl rfl ?_
   refine wl_h hS27.toHeld (r_pick_t rfl (v := .bool _) rfl) <| wl_h hS27.toHeld (r_move (v := .bool _) rfl) <| wl_off (t := 23) (b := true) rfl rfl rfl ?_
   refine wl_off (t := 23) (b := true) rfl rfl rfl ?_
   refine wl_off (t := 23) (b := true) rfl rfl rfl ?_
   refine wl_h hS27.toHeld (r_pick_t rfl (v := .bool _) rfl) <| wl_nil <| c_true rfl <| c_seq <| c_region <| wl_h hS27.toHeld (r_assign (v := .int .i64 _) rfl) ?_
   refine wl_nil <| c_ret <| ret_tmp (t := 2) rfl (v := .int .i64 _) rfl ?_
   obtain rfl := some_eq hM
   have hS29 := hS27.weaken (.cons _ (.refl _))
   exact ⟨rfl, hS29⟩
  ·replace hM := bif_f h28 hM
   refine wl_on (t := 14) rfl rfl ?_
   refine wl_h hS27.toHeld (r_fieldAddr fld25_3 (b := _) (o := _) rfl) <| wl_on (t := 14) rfl rfl ?_
   refine wl_h hS27.toHeld (r_box ty3 (k := 3) .here rfl rfl rfl (v := .int .i64 _) rfl) <| wl_on (t := 14) rfl rfl ?_
   refine wl_h hS27.toHeld (r_fieldAddr fld25_4 (b := _) (o := _) rfl) <| wl_on (t := 14) rfl rfl ?_
   refine wl_h hS27.toHeld (r_box ty3 (k := 4) .here rfl rfl rfl (v := .int .i64 _) rfl) <| wl_on (t := 14) rfl rfl ?_
   refine wl_buildSlice Tryz.underlying26 ty3 rfl (by decide) (by decide) hS27 (ps := [(0, [.int .i64 _]), (1, [.int .i64 _])]) rfl rfl (cs := [.int .i64 _, .int .i64 _]) rfl rfl (by decide) ?_
   intro b31 w32 hS33
   have hrc34 : RCs 1 RInt m [.int .i64 f3.start, .int .i64 f3.back] ([f3.start, f3.back] : List Int) := (RCs.cons (d := [.int .i64 f3.start]) rfl rfl (RCs.cons (d := [.int .i64 f3.back]) rfl rfl RCs.nil))
   refine wl_on (t := 14) rfl rfl ?_
   obtain ⟨m35, hm36, hS37, hr38, back39⟩ := hS33.lend .here hrc34 RInt.mono (by decide)
   have le40 := hm36
   obtain ⟨r41, hq42, hM⟩ := bnd_ok hM
   refine wl_call ent60 (vals := [.slice _ _ _]) rfl (cg60 hS37 hr38 hq42) ?_
   rintro _ w44 ⟨rfl, hS45⟩
   have hS46 := back39 _ _ hS45
   refine wl_on (t := 14) rfl rfl ?_
   refine wl_h hS46.toHeld (r_not (b := _) rfl) <| wl_h hS46.toHeld (r_pick_f rfl (v := .bool _) rfl) <| wl_h hS46.toHeld (r_move (v := .bool _) rfl) <| wl_split rfl (c := _) (t := 23) (fun h47 => ?_) (fun h47 => ?_)
   ·replace hM := bif_t h47 hM
    refine wl_off (t := 23) (b := true) rfl rfl rfl ?_
    refine wl_off (t := 23) (b := true) rfl rfl rfl ?_
    refine wl_off (t := 23) (b := true) rfl rfl rfl ?_
    refine wl_h hS46.toHeld (r_pick_t rfl (v := .bool _) rfl) <| wl_nil <| c_true rfl <| c_seq <| c_region <| wl_h hS46.toHeld (r_assign (v := .int .i64 _) rfl) ?_
    refine wl_nil <| c_ret <| ret_tmp (t := 2) rfl (v := .int .i64 _) rfl ?_
    obtain rfl := some_eq hM
    have hS48 := hS46.weaken (.cons _ (.cons _ (.refl _)))
    exact ⟨rfl, hS48⟩
   ·replace hM := bif_f h47 hM
    refine wl_on (t := 23) rfl rfl ?_
    refine wl_h hS46.toHeld (r_fieldAddr fld25_0 (b := _) (o := _) rfl) <| wl_on (t := 23) rfl rfl ?_
    refine wl_h hS46.toHeld (r_box ty22 (k := 0) (.there .here) rfl rfl rfl (v := .slice _ _ _) rfl) <| wl_on (t := 23) rfl rfl ?_
    obtain ⟨r49, hq50, hM⟩ := bnd_ok hM
    refine wl_call ent61 (vals := [.slice _ _ _, .func (.func 62) #[] #[]]) rfl (cg61 hS46 hr7 (q6 := (mg62 fuel)) (caps8 := []) ent62 (fun m' E w' cs0 x0 r hle hSt h0 hq => cg62 hSt h0 hq) hq50) ?_
    rintro _ w52 ⟨rfl, hS53⟩
    refine wl_h hS53.toHeld (r_pick_f rfl (v := .bool _) rfl) <| wl_nil <| c_cond (c := _) rfl (fun h54 => ?_) (fun h54 => ?_)
    ·replace hM := bif_t h54 hM
     refine c_seq <| c_region <| wl_h hS53.toHeld (r_assign (v := .int .i64 _) rfl) <| wl_nil <| c_ret <| ret_tmp (t := 2) rfl (v := .int .i64 _) rfl ?_
     obtain rfl := some_eq hM
     have hS55 := hS53.weaken (.cons _ (.cons _ (.refl _)))
     exact ⟨rfl, hS55⟩
    ·replace hM := bif_f h54 hM
     refine c_skip <| c_seq <| c_seq <| c_region <| wl_h hS53.toHeld (r_fieldAddr fld25_1 (b := _) (o := _) rfl) ?_
     refine wl_h hS53.toHeld (r_box ty23 (k := 1) (.there .here) rfl rfl rfl (v := .slice _ _ _) rfl) <| wl_h hS53.toHeld (r_len Tryz.underlying23 (a := _) (n := _) (c := _) rfl) <| wl_h hS53.toHeld (r_fieldAddr fld25_0 (b := _) (o := _) rfl) <| wl_h hS53.toHeld (r_box ty22 (k := 0) (.there .here) rfl rfl rfl (v := .slice _ _ _) rfl) <| wl_h hS53.toHeld (r_len Tryz.underlying22 (a := _) (n := _) (c := _) rfl) ?_
     obtain ⟨hc56, hM⟩ := chk_ok hM
     refine wl_h hS53.toHeld (r_add (a := _) (b := _) rfl rfl (ok_lo hc56) (ok_hi hc56)) <| wl_h hS53.toHeld (r_neq (a := _) (b := _) rfl rfl) <| wl_nil <| c_cond (c := _) rfl (fun h57 => ?_) (fun h57 => ?_)
     ·replace hM := bif_t h57 hM
      refine c_seq <| c_region <| wl_h hS53.toHeld (r_assign (v := .int .i64 _) rfl) <| wl_nil <| c_ret <| ret_tmp (t := 2) rfl (v := .int .i64 _) rfl ?_
      obtain rfl := some_eq hM
      have hS58 := hS53.weaken (.cons _ (.cons _ (.refl _)))
      exact ⟨rfl, hS58⟩
     ·replace hM := bif_f h57 hM
      refine c_skip <| c_seq <| c_seq <| c_region <| wl_h hS53.toHeld (r_fieldAddr fld25_1 (b := _) (o := _) rfl) ?_
      refine wl_h hS53.toHeld (r_box ty23 (k := 1) (.there .here) rfl rfl rfl (v := .slice _ _ _) rfl) <| wl_h hS53.toHeld (r_len Tryz.underlying23 (a := _) (n := _) (c := _) rfl) <| wl_h hS53.toHeld (r_move (v := .int .i64 _) rfl) <| wl_nil <| c_block ?_
      have hS59 := hS53.weaken (.cons _ (.cons_cons _ (.refl _)))
      refine c_loop (fun k f w => ∃ (x97 : Int), mg18_l0 fuel f3 k x97 = some r ∧ St w m (.box b13 25 [.slice a4 f3.stops.length c6, .slice a8 f3.minutes.length c10, .int .i64 f3.cap, .int .i64 f3.start, .int .i64 f3.back] :: L) ∧ f 1 = .pointer (some ⟨b13, 0, none⟩) ∧ f 37 = .slice a8 f3.minutes.length c10 ∧ f 38 = .int .i64 ((f3.minutes.length : Nat) : Int) ∧ f 39 = .int .i64 x97) fuel ⟨0, hM, hS59, rfl, rfl, rfl, rfl⟩ ?_
      rintro k_0 f98 w99 ⟨x97, hM, hS101, e102, e103, e104, e105⟩
      refine c_know (t := 1) e102 <| c_know (t := 37) e103 <| c_know (t := 38) e104 <| c_know (t := 39) e105 ?_
      clear e102 e103 e104 e105
      rcases k_0 with _ | k_0
      · exact none_ne hM
      rw [mg18_l0] at hM
      refine c_seq <| c_region <| wl_h hS101.toHeld (r_lss (a := _) (b := _) rfl rfl) <| wl_nil <| c_seq <| c_cond (c := _) rfl (fun h106 => ?_) (fun h106 => ?_)
      ·replace hM := bif_t h106 hM
       refine c_skip <| c_seq <| c_block <| c_seq <| c_region <| wl_h hS101.toHeld (r_move (v := .int .i64 _) rfl) ?_
       obtain ⟨x107, hx108, h109, h110, hM⟩ := getK_ok hM
       obtain ⟨b111, o112, rfl⟩ := RSl.elem_a hr11 hx108
       obtain ⟨cs113, hI114, hR115⟩ := RSl.elem_at hr11 hx108
       obtain ⟨a116, n117, c118, rfl, hr119⟩ := hR115
       obtain rfl := hr119.1
       refine wl_h hS101.toHeld (r_indexAddr Tryz.underlying23 ty26 (b := _) (o := _) (n := _) (c := _) (i := x97) rfl rfl h109 (RSl.lt hr11 h110)) <| wl_h hS101.toHeld (r_imm ty26 (k := 0) hI114 rfl rfl rfl (v := .slice _ _ _) rfl) <| wl_h hS101.toHeld (r_assign (v := .int .i64 _) rfl) <| wl_h hS101.toHeld (r_assign (v := .slice _ _ _) rfl) <| wl_nil <| c_seq <| c_region <| wl_h hS101.toHeld (r_move (v := .slice _ _ _) rfl) ?_
       refine wl_h hS101.toHeld (r_len Tryz.underlying26 (a := _) (n := _) (c := _) rfl) <| wl_h hS101.toHeld (r_fieldAddr fld25_1 (b := _) (o := _) rfl) <| wl_h hS101.toHeld (r_box ty23 (k := 1) .here rfl rfl rfl (v := .slice _ _ _) rfl) <| wl_h hS101.toHeld (r_len Tryz.underlying23 (a := _) (n := _) (c := _) rfl) <| wl_h hS101.toHeld (r_neq (a := _) (b := _) rfl rfl) ?_
       refine wl_h hS101.toHeld (r_move (v := .bool _) rfl) <| wl_split rfl (c := _) (t := 50) (fun h120 => ?_) (fun h120 => ?_)
       ·replace hM := bif_t h120 hM
        refine wl_off (t := 50) (b := true) rfl rfl rfl ?_
        refine wl_off (t := 50) (b := true) rfl rfl rfl ?_
        refine wl_off (t := 50) (b := true) rfl rfl rfl ?_
        refine wl_off (t := 50) (b := true) rfl rfl rfl ?_
        refine wl_off (t := 50) (b := true) rfl rfl rfl ?_
        refine wl_h hS101.toHeld (r_pick_t rfl (v := .bool _) rfl) <| wl_h hS101.toHeld (r_move (v := .bool _) rfl) <| wl_off (t := 57) (b := true) rfl rfl rfl ?_
        refine wl_off (t := 57) (b := true) rfl rfl rfl ?_
        refine wl_h hS101.toHeld (r_pick_t rfl (v := .bool _) rfl) <| wl_nil <| c_true rfl <| c_seq <| c_region <| wl_h hS101.toHeld (r_assign (v := .int .i64 _) rfl) ?_
        refine wl_nil <| c_ret <| q_retb <| q_retl <| q_retb ?_
        refine ret_tmp (t := 2) rfl (v := .int .i64 _) rfl ?_
        obtain rfl := some_eq hM
        have hS121 := hS101.weaken (.cons _ (.refl _))
        exact ⟨rfl, hS121⟩
       ·replace hM := bif_f h120 hM
        refine wl_on (t := 50) rfl rfl ?_
        refine wl_h hS101.toHeld (r_move (v := .slice _ _ _) rfl) <| wl_on (t := 50) rfl rfl ?_
        refine wl_h hS101.toHeld (r_move (v := .int .i64 _) rfl) <| wl_on (t := 50) rfl rfl ?_
        obtain ⟨x122, hx123, h124, h125, hM⟩ := getK_ok hM
        obtain ⟨b126, o127, rfl⟩ := RSl.elem_a hr119 hx123
        obtain ⟨cs128, hI129, hR130⟩ := RSl.elem_at hr119 hx123
        obtain rfl := hR130
        refine wl_h hS101.toHeld (r_indexAddr Tryz.underlying26 ty3 (b := _) (o := _) (n := _) (c := _) (i := x97) rfl rfl h124 (RSl.lt hr119 h125)) <| wl_on (t := 50) rfl rfl ?_
        refine wl_h hS101.toHeld (r_imm ty3 (k := 0) hI129 rfl rfl rfl (v := .int .i64 _) rfl) <| wl_on (t := 50) rfl rfl ?_
        refine wl_h hS101.toHeld (r_neq (a := _) (b := _) rfl rfl) <| wl_h hS101.toHeld (r_pick_f rfl (v := .bool _) rfl) <| wl_h hS101.toHeld (r_move (v := .bool _) rfl) <| wl_split rfl (c := _) (t := 57) (fun h131 => ?_) (fun h131 => ?_)
        ·replace hM := bif_t h131 hM
         refine wl_off (t := 57) (b := true) rfl rfl rfl ?_
         refine wl_off (t := 57) (b := true) rfl rfl rfl ?_
         refine wl_h hS101.toHeld (r_pick_t rfl (v := .bool _) rfl) <| wl_nil <| c_true rfl <| c_seq <| c_region <| wl_h hS101.toHeld (r_assign (v := .int .i64 _) rfl) ?_
         refine wl_nil <| c_ret <| q_retb <| q_retl <| q_retb ?_
         refine ret_tmp (t := 2) rfl (v := .int .i64 _) rfl ?_
         obtain rfl := some_eq hM
         have hS132 := hS101.weaken (.cons _ (.refl _))
         exact ⟨rfl, hS132⟩
        ·replace hM := bif_f h131 hM
         refine wl_on (t := 57) rfl rfl ?_
         refine wl_h hS101.toHeld (r_move (v := .slice _ _ _) rfl) <| wl_on (t := 57) rfl rfl ?_
         obtain ⟨r133, hq134, hM⟩ := bnd_ok hM
         refine wl_call ent53 (vals := [.slice _ _ _, .func (.func 63) #[] #[]]) rfl (cg53 hS101 hr119 (q6 := (mg63 fuel)) (caps8 := []) ent63 (fun m' E w' x0 r hle hSt  hq => cg63 hSt  hq) hq134) ?_
         rintro _ w136 ⟨rfl, hS137⟩
         refine wl_h hS137.toHeld (r_pick_f rfl (v := .bool _) rfl) <| wl_nil <| c_cond (c := _) rfl (fun h138 => ?_) (fun h138 => ?_)
         ·replace hM := bif_t h138 hM
          refine c_seq <| c_region <| wl_h hS137.toHeld (r_assign (v := .int .i64 _) rfl) <| wl_nil <| c_ret <| q_retb ?_
          refine q_retl <| q_retb <| ret_tmp (t := 2) rfl (v := .int .i64 _) rfl ?_
          obtain rfl := some_eq hM
          have hS139 := hS137.weaken (.cons _ (.refl _))
          exact ⟨rfl, hS139⟩
         ·replace hM := bif_f h138 hM
          refine c_skip <| c_nil <| q_norm <| c_region ?_
          obtain ⟨hc140, hM⟩ := chk_ok hM
          refine wl_h hS137.toHeld (r_add (a := _) (b := _) rfl rfl (ok_lo hc140) (ok_hi hc140)) <| wl_h hS137.toHeld (r_move (v := .int .i64 _) rfl) <| wl_nil <| c_nil <| q_loop ?_
          exact ⟨k_0, Nat.lt_succ_self _, x97 + 1, hM, hS137, rfl, rfl, rfl, rfl⟩
      ·replace hM := bif_f h106 hM
       refine c_exit <| q_loopx <| q_hit <| c_seq <| c_region <| wl_h hS101.toHeld (r_assign (v := .int .i64 _) rfl) ?_
       refine wl_nil <| c_ret <| ret_tmp (t := 2) rfl (v := .int .i64 _) rfl ?_
       obtain rfl := some_eq hM
       have hS141 := hS101.weaken (.cons _ (.refl _))
       exact ⟨rfl, hS141⟩

theorem cg64 {m : Mem} {L : List Atom} {w : World} {n1 : Int} {a2 : Int} {b3 : Int} (hS : St w m L)  {fuel : Nat} {r : Bool} (hM : mg64 fuel n1 a2 b3 = some r) : Calls P0 64 [.int .i64 n1, .int .i64 a2, .int .i64 b3].toArray w (Ret fun v w' => v = .bool r ∧ St w' m (L)) := by
 rw [mg64] at hM
 refine enter Tryz.func64 rfl Tryz.ntmps64 (Nat.le_of_ble_eq_true rfl) ?_
 refine c_seq <| c_region <| wl_h hS.toHeld (r_assign (v := .bool _) rfl) <| wl_nil <| c_seq <| c_region <| wl_h hS.toHeld (r_move (v := .int .i64 _) rfl) ?_
 refine wl_h hS.toHeld (r_move (v := .int .i64 _) rfl) <| wl_h hS.toHeld (r_geq (a := _) (b := _) rfl rfl) <| wl_h hS.toHeld (r_move (v := .bool _) rfl) <| wl_split rfl (c := _) (t := 10) (fun h4 => ?_) (fun h4 => ?_)
 ·replace hM := bif_t h4 hM
  refine wl_on (t := 10) rfl rfl ?_
  refine wl_h hS.toHeld (r_move (v := .int .i64 _) rfl) <| wl_on (t := 10) rfl rfl ?_
  refine wl_h hS.toHeld (r_move (v := .int .i64 _) rfl) <| wl_on (t := 10) rfl rfl ?_
  refine wl_h hS.toHeld (r_leq (a := _) (b := _) rfl rfl) <| wl_h hS.toHeld (r_pick_t rfl (v := .bool _) rfl) <| wl_h hS.toHeld (r_assign (v := .bool _) rfl) <| wl_nil <| c_ret <| ret_tmp (t := 6) rfl (v := .bool _) rfl ?_
  obtain rfl := some_eq hM
  exact ⟨rfl, hS⟩
 ·replace hM := bif_f h4 hM
  refine wl_off (t := 10) (b := false) rfl rfl rfl ?_
  refine wl_off (t := 10) (b := false) rfl rfl rfl ?_
  refine wl_off (t := 10) (b := false) rfl rfl rfl ?_
  refine wl_h hS.toHeld (r_pick_f rfl (v := .bool _) rfl) <| wl_h hS.toHeld (r_assign (v := .bool _) rfl) <| wl_nil <| c_ret <| ret_tmp (t := 6) rfl (v := .bool _) rfl ?_
  obtain rfl := some_eq hM
  exact ⟨rfl, hS⟩

theorem cg19 {m : Mem} {L : List Atom} {w : World} {cs1 : List Value} {f3 : Fleet} (hS : St w m L) (hx2 : RFleet m cs1 f3) {fuel : Nat} {r : Int} (hM : mg19 fuel f3 = some r) : Calls P0 19 [.agg cs1.toArray].toArray w (Ret fun v w' => v = .int .i64 r ∧ St w' m (L)) := by
 rw [mg19] at hM
 have hk12 := hx2
 obtain ⟨a4, n5, c6, a8, n9, c10, rfl, hr7, hr11⟩ := hx2
 obtain rfl := hr7.1
 obtain rfl := hr11.1
 refine enter Tryz.func19 rfl Tryz.ntmps19 (Nat.le_of_ble_eq_true rfl) ?_
 refine c_seq <| c_region <| wl_box hS (v := .agg #[.slice _ _ _, .slice _ _ _, .int .i64 _, .int .i64 _, .int .i64 _]) rfl (cs := [.slice _ _ _, .slice _ _ _, .int .i64 _, .int .i64 _, .int .i64 _]) rfl ?_
 intro b13 w14 hS15
 refine wl_h hS15.toHeld (r_assign (v := .int .i64 _) rfl) <| wl_nil <| c_seq <| c_region <| wl_h hS15.toHeld (r_fieldAddr fld53_0 (b := _) (o := _) rfl) ?_
 refine wl_h hS15.toHeld (r_box ty51 (k := 0) .here rfl rfl rfl (v := .slice _ _ _) rfl) <| wl_h hS15.toHeld (r_len Tryz.underlying51 (a := _) (n := _) (c := _) rfl) <| wl_h hS15.toHeld (r_assign (v := .int .i64 _) rfl) <| wl_nil <| c_seq <| c_seq <| c_region <| wl_h hS15.toHeld (r_move (v := .int .i64 _) rfl) ?_
 obtain ⟨r16, hq17, hM⟩ := bnd_ok hM
 refine wl_call ent64 (vals := [.int .i64 _, .int .i64 _, .int .i64 _]) rfl (cg64 hS15 hq17) ?_
 rintro _ w19 ⟨rfl, hS20⟩
 refine wl_h hS20.toHeld (r_not (b := _) rfl) <| wl_nil <| c_cond (c := _) rfl (fun h21 => ?_) (fun h21 => ?_)
 ·replace hM := bif_t h21 hM
  refine c_seq <| c_region <| wl_h hS20.toHeld (r_assign (v := .int .i64 _) rfl) <| wl_nil <| c_ret <| ret_tmp (t := 2) rfl (v := .int .i64 _) rfl ?_
  obtain rfl := some_eq hM
  have hS22 := hS20.weaken (.cons _ (.refl _))
  exact ⟨rfl, hS22⟩
 ·replace hM := bif_f h21 hM
  refine c_skip <| c_seq <| c_seq <| c_region <| wl_h hS20.toHeld (r_fieldAddr fld53_2 (b := _) (o := _) rfl) ?_
  refine wl_h hS20.toHeld (r_box ty3 (k := 2) .here rfl rfl rfl (v := .int .i64 _) rfl) ?_
  obtain ⟨r23, hq24, hM⟩ := bnd_ok hM
  refine wl_call ent64 (vals := [.int .i64 _, .int .i64 _, .int .i64 _]) rfl (cg64 hS20 hq24) ?_
  rintro _ w26 ⟨rfl, hS27⟩
  refine wl_h hS27.toHeld (r_not (b := _) rfl) <| wl_h hS27.toHeld (r_move (v := .bool _) rfl) <| wl_split rfl (c := _) (t := 18) (fun h28 => ?_) (fun h28 => ?_)
  ·replace hM := bif_t h28 hM
   refine wl_off (t := 18) (b := true) rfl rfl rfl ?_
   refine wl_off (t := 18) (b := true) rfl rfl rfl ?_
   refine wl_off (t := 18) (b := true) rfl rfl rfl ?_
   refine wl_off (t := 18) (b := true) rfl rfl rfl ?_
   refine wl_h hS27.toHeld (r_pick_t rfl (v := .bool _) rfl) <| wl_h hS27.toHeld (r_move (v := .bool _) rfl) <| wl_off (t := 24) (b := true) rfl rfl rfl ?_
   refine wl_off (t := 24) (b := true) rfl rfl rfl ?_
   refine wl_off (t := 24) (b := true) rfl rfl rfl ?_
   refine wl_off (t := 24) (b := true) rfl rfl rfl ?_
   refine wl_h hS27.toHeld (r_pick_t rfl (v := .bool _) rfl) <| wl_nil <| c_true rfl <| c_seq <| c_region <| wl_h hS27.toHeld (r_assign (v := .int .i64 _) rfl) ?_
   refine wl_nil <| c_ret <| ret_tmp (t := 2) rfl (v := .int .i64 _) rfl ?_
   obtain rfl := some_eq hM
   have hS29 := hS27.weaken (.cons _ (.refl _))
   exact ⟨rfl, hS29⟩
  ·replace hM := bif_f h28 hM
   refine wl_on (t := 18) rfl rfl ?_
   refine wl_h hS27.toHeld (r_fieldAddr fld53_3 (b := _) (o := _) rfl) <| wl_on (t := 18) rfl rfl ?_
   refine wl_h hS27.toHeld (r_box ty3 (k := 3) .here rfl rfl rfl (v := .int .i64 _) rfl) <| wl_on (t := 18) rfl rfl ?_
   obtain ⟨r30, hq31, hM⟩ := bnd_ok hM
   refine wl_call ent64 (vals := [.int .i64 _, .int .i64 _, .int .i64 _]) rfl (cg64 hS27 hq31) ?_
   rintro _ w33 ⟨rfl, hS34⟩
   refine wl_on (t := 18) rfl rfl ?_
   refine wl_h hS34.toHeld (r_not (b := _) rfl) <| wl_h hS34.toHeld (r_pick_f rfl (v := .bool _) rfl) <| wl_h hS34.toHeld (r_move (v := .bool _) rfl) <| wl_split rfl (c := _) (t := 24) (fun h35 => ?_) (fun h35 => ?_)
   ·replace hM := bif_t h35 hM
    refine wl_off (t := 24) (b := true) rfl rfl rfl ?_
    refine wl_off (t := 24) (b := true) rfl rfl rfl ?_
    refine wl_off (t := 24) (b := true) rfl rfl rfl ?_
    refine wl_off (t := 24) (b := true) rfl rfl rfl ?_
    refine wl_h hS34.toHeld (r_pick_t rfl (v := .bool _) rfl) <| wl_nil <| c_true rfl <| c_seq <| c_region <| wl_h hS34.toHeld (r_assign (v := .int .i64 _) rfl) ?_
    refine wl_nil <| c_ret <| ret_tmp (t := 2) rfl (v := .int .i64 _) rfl ?_
    obtain rfl := some_eq hM
    have hS36 := hS34.weaken (.cons _ (.refl _))
    exact ⟨rfl, hS36⟩
   ·replace hM := bif_f h35 hM
    refine wl_on (t := 24) rfl rfl ?_
    refine wl_h hS34.toHeld (r_fieldAddr fld53_4 (b := _) (o := _) rfl) <| wl_on (t := 24) rfl rfl ?_
    refine wl_h hS34.toHeld (r_box ty3 (k := 4) .here rfl rfl rfl (v := .int .i64 _) rfl) <| wl_on (t := 24) rfl rfl ?_
    obtain ⟨r37, hq38, hM⟩ := bnd_ok hM
    refine wl_call ent64 (vals := [.int .i64 _, .int .i64 _, .int .i64 _]) rfl (cg64 hS34 hq38) ?_
    rintro _ w40 ⟨rfl, hS41⟩
    refine wl_on (t := 24) rfl rfl ?_
    refine wl_h hS41.toHeld (r_not (b := _) rfl) <| wl_h hS41.toHeld (r_pick_f rfl (v := .bool _) rfl) <| wl_nil <| c_cond (c := _) rfl (fun h42 => ?_) (fun h42 => ?_)
    ·replace hM := bif_t h42 hM
     refine c_seq <| c_region <| wl_h hS41.toHeld (r_assign (v := .int .i64 _) rfl) <| wl_nil <| c_ret <| ret_tmp (t := 2) rfl (v := .int .i64 _) rfl ?_
     obtain rfl := some_eq hM
     have hS43 := hS41.weaken (.cons _ (.refl _))
     exact ⟨rfl, hS43⟩
    ·replace hM := bif_f h42 hM
     refine c_skip <| c_seq <| c_seq <| c_region <| wl_h hS41.toHeld (r_assign (v := .int .i64 _) rfl) ?_
     refine wl_nil <| c_block <| c_loop (fun k f w => ∃ (i380 : Int), mg19_l0 fuel f3 k i380 = some r ∧ St w m (.box b13 53 [.slice a4 f3.stops.length c6, .slice a8 f3.minutes.length c10, .int .i64 f3.cap, .int .i64 f3.start, .int .i64 f3.back] :: L) ∧ f 1 = .pointer (some ⟨b13, 0, none⟩) ∧ f 3 = .int .i64 ((f3.stops.length : Nat) : Int) ∧ f 4 = .int .i64 i380) fuel ⟨0, hM, hS41, rfl, rfl, rfl⟩ ?_
     rintro k_0 f381 w382 ⟨i380, hM, hS384, e385, e386, e387⟩
     refine c_know (t := 1) e385 <| c_know (t := 3) e386 <| c_know (t := 4) e387 ?_
     clear e385 e386 e387
     rcases k_0 with _ | k_0
     · exact none_ne hM
     rw [mg19_l0] at hM
     refine c_seq <| c_seq <| c_region <| wl_h hS384.toHeld (r_move (v := .int .i64 _) rfl) <| wl_h hS384.toHeld (r_move (v := .int .i64 _) rfl) ?_
     refine wl_h hS384.toHeld (r_lss (a := _) (b := _) rfl rfl) <| wl_nil <| c_cond (c := _) rfl (fun h388 => ?_) (fun h388 => ?_)
     ·replace hM := bif_t h388 hM
      refine c_skip <| c_seq <| c_block <| c_seq <| c_region <| wl_h hS384.toHeld (r_fieldAddr fld53_0 (b := _) (o := _) rfl) ?_
      refine wl_h hS384.toHeld (r_box ty51 (k := 0) .here rfl rfl rfl (v := .slice _ _ _) rfl) <| wl_h hS384.toHeld (r_move (v := .int .i64 _) rfl) ?_
      obtain ⟨x389, hx390, h391, h392, hM⟩ := getK_ok hM
      obtain ⟨b393, o394, rfl⟩ := RSl.elem_a hr7 hx390
      obtain ⟨cs395, hI396, hR397⟩ := RSl.elem_at hr7 hx390
      obtain rfl := hR397
      refine wl_h hS384.toHeld (r_indexAddr Tryz.underlying51 ty120 (b := _) (o := _) (n := _) (c := _) (i := i380) rfl rfl h391 (RSl.lt hr7 h392)) <| wl_h hS384.toHeld (r_imm ty120 (k := 0) hI396 rfl rfl rfl (v := .agg #[.int .i64 _, .int .i64 _, .int .i64 _, .int .i64 _, .int .i64 _]) rfl) <| wl_alloc ty120 rfl hS384 ?_
      intro b398 w399 hS400
      refine wl_store_box ty120 hS400 rfl (v := .agg #[.int .i64 _, .int .i64 _, .int .i64 _, .int .i64 _, .int .i64 _]) rfl (vs := [.int .i64 _, .int .i64 _, .int .i64 _, .int .i64 _, .int .i64 _]) rfl rfl rfl .here (cs' := [.int .i64 _, .int .i64 _, .int .i64 _, .int .i64 _, .int .i64 _]) rfl rfl ?_
      intro w401 hS402
      refine wl_nil <| c_seq <| c_region <| wl_h hS402.toHeld (r_fieldAddr fld120_0 (b := _) (o := _) rfl) <| wl_h hS402.toHeld (r_box ty3 (k := 0) .here rfl rfl rfl (v := .int .i64 _) rfl) ?_
      obtain ⟨r403, hq404, hM⟩ := bnd_ok hM
      refine wl_call ent64 (vals := [.int .i64 _, .int .i64 _, .int .i64 _]) rfl (cg64 hS402 hq404) ?_
      rintro _ w406 ⟨rfl, hS407⟩
      refine wl_h hS407.toHeld (r_not (b := _) rfl) <| wl_h hS407.toHeld (r_move (v := .bool _) rfl) <| wl_split rfl (c := _) (t := 44) (fun h408 => ?_) (fun h408 => ?_)
      ·replace hM := bif_t h408 hM
       refine wl_off (t := 44) (b := true) rfl rfl rfl ?_
       refine wl_off (t := 44) (b := true) rfl rfl rfl ?_
       refine wl_off (t := 44) (b := true) rfl rfl rfl ?_
       refine wl_off (t := 44) (b := true) rfl rfl rfl ?_
       refine wl_h hS407.toHeld (r_pick_t rfl (v := .bool _) rfl) <| wl_h hS407.toHeld (r_move (v := .bool _) rfl) <| wl_off (t := 50) (b := true) rfl rfl rfl ?_
       refine wl_off (t := 50) (b := true) rfl rfl rfl ?_
       refine wl_off (t := 50) (b := true) rfl rfl rfl ?_
       refine wl_off (t := 50) (b := true) rfl rfl rfl ?_
       refine wl_h hS407.toHeld (r_pick_t rfl (v := .bool _) rfl) <| wl_h hS407.toHeld (r_move (v := .bool _) rfl) <| wl_off (t := 56) (b := true) rfl rfl rfl ?_
       refine wl_off (t := 56) (b := true) rfl rfl rfl ?_
       refine wl_off (t := 56) (b := true) rfl rfl rfl ?_
       refine wl_off (t := 56) (b := true) rfl rfl rfl ?_
       refine wl_off (t := 56) (b := true) rfl rfl rfl ?_
       refine wl_off (t := 56) (b := true) rfl rfl rfl ?_
       refine wl_h hS407.toHeld (r_pick_t rfl (v := .bool _) rfl) <| wl_h hS407.toHeld (r_move (v := .bool _) rfl) <| wl_off (t := 64) (b := true) rfl rfl rfl ?_
       refine wl_off (t := 64) (b := true) rfl rfl rfl ?_
       refine wl_off (t := 64) (b := true) rfl rfl rfl ?_
       refine wl_off (t := 64) (b := true) rfl rfl rfl ?_
       refine wl_h hS407.toHeld (r_pick_t rfl (v := .bool _) rfl) <| wl_nil <| c_true rfl <| c_seq <| c_region <| wl_h hS407.toHeld (r_assign (v := .int .i64 _) rfl) ?_
       refine wl_nil <| c_ret <| q_retb <| q_retl <| q_retb ?_
       refine ret_tmp (t := 2) rfl (v := .int .i64 _) rfl ?_
       obtain rfl := some_eq hM
       have hS409 := hS407.weaken (.cons _ (.cons _ (.refl _)))
       exact ⟨rfl, hS409⟩
      ·replace hM := bif_f h408 hM
       refine wl_on (t := 44) rfl rfl ?_
       refine wl_h hS407.toHeld (r_fieldAddr fld120_1 (b := _) (o := _) rfl) <| wl_on (t := 44) rfl rfl ?_
       refine wl_h hS407.toHeld (r_box ty3 (k := 1) .here rfl rfl rfl (v := .int .i64 _) rfl) <| wl_on (t := 44) rfl rfl ?_
       obtain ⟨r410, hq411, hM⟩ := bnd_ok hM
       refine wl_call ent64 (vals := [.int .i64 _, .int .i64 _, .int .i64 _]) rfl (cg64 hS407 hq411) ?_
       rintro _ w413 ⟨rfl, hS414⟩
       refine wl_on (t := 44) rfl rfl ?_
       refine wl_h hS414.toHeld (r_not (b := _) rfl) <| wl_h hS414.toHeld (r_pick_f rfl (v := .bool _) rfl) <| wl_h hS414.toHeld (r_move (v := .bool _) rfl) <| wl_split rfl (c := _) (t := 50) (fun h415 => ?_) (fun h415 => ?_)
       ·replace hM := bif_t h415 hM
        refine wl_off (t := 50) (b := true) rfl rfl rfl ?_
        refine wl_off (t := 50) (b := true) rfl rfl rfl ?_
        refine wl_off (t := 50) (b := true) rfl rfl rfl ?_
        refine wl_off (t := 50) (b := true) rfl rfl rfl ?_
        refine wl_h hS414.toHeld (r_pick_t rfl (v := .bool _) rfl) <| wl_h hS414.toHeld (r_move (v := .bool _) rfl) <| wl_off (t := 56) (b := true) rfl rfl rfl ?_
        refine wl_off (t := 56) (b := true) rfl rfl rfl ?_
        refine wl_off (t := 56) (b := true) rfl rfl rfl ?_
        refine wl_off (t := 56) (b := true) rfl rfl rfl ?_
        refine wl_off (t := 56) (b := true) rfl rfl rfl ?_
        refine wl_off (t := 56) (b := true) rfl rfl rfl ?_
        refine wl_h hS414.toHeld (r_pick_t rfl (v := .bool _) rfl) <| wl_h hS414.toHeld (r_move (v := .bool _) rfl) <| wl_off (t := 64) (b := true) rfl rfl rfl ?_
        refine wl_off (t := 64) (b := true) rfl rfl rfl ?_
        refine wl_off (t := 64) (b := true) rfl rfl rfl ?_
        refine wl_off (t := 64) (b := true) rfl rfl rfl ?_
        refine wl_h hS414.toHeld (r_pick_t rfl (v := .bool _) rfl) <| wl_nil <| c_true rfl <| c_seq <| c_region <| wl_h hS414.toHeld (r_assign (v := .int .i64 _) rfl) ?_
        refine wl_nil <| c_ret <| q_retb <| q_retl <| q_retb ?_
        refine ret_tmp (t := 2) rfl (v := .int .i64 _) rfl ?_
        obtain rfl := some_eq hM
        have hS416 := hS414.weaken (.cons _ (.cons _ (.refl _)))
        exact ⟨rfl, hS416⟩
       ·replace hM := bif_f h415 hM
        refine wl_on (t := 50) rfl rfl ?_
        refine wl_h hS414.toHeld (r_fieldAddr fld120_2 (b := _) (o := _) rfl) <| wl_on (t := 50) rfl rfl ?_
        refine wl_h hS414.toHeld (r_box ty3 (k := 2) .here rfl rfl rfl (v := .int .i64 _) rfl) <| wl_on (t := 50) rfl rfl ?_
        obtain ⟨r417, hq418, hM⟩ := bnd_ok hM
        refine wl_call ent64 (vals := [.int .i64 _, .int .i64 _, .int .i64 _]) rfl (cg64 hS414 hq418) ?_
        rintro _ w420 ⟨rfl, hS421⟩
        refine wl_on (t := 50) rfl rfl ?_
        refine wl_h hS421.toHeld (r_not (b := _) rfl) <| wl_h hS421.toHeld (r_pick_f rfl (v := .bool _) rfl) <| wl_h hS421.toHeld (r_move (v := .bool _) rfl) <| wl_split rfl (c := _) (t := 56) (fun h422 => ?_) (fun h422 => ?_)
        ·replace hM := bif_t h422 hM
         refine wl_off (t := 56) (b := true) rfl rfl rfl ?_
         refine wl_off (t := 56) (b := true) rfl rfl rfl ?_
         refine wl_off (t := 56) (b := true) rfl rfl rfl ?_
         refine wl_off (t := 56) (b := true) rfl rfl rfl ?_
         refine wl_off (t := 56) (b := true) rfl rfl rfl ?_
         refine wl_off (t := 56) (b := true) rfl rfl rfl ?_
         refine wl_h hS421.toHeld (r_pick_t rfl (v := .bool _) rfl) <| wl_h hS421.toHeld (r_move (v := .bool _) rfl) <| wl_off (t := 64) (b := true) rfl rfl rfl ?_
         refine wl_off (t := 64) (b := true) rfl rfl rfl ?_
         refine wl_off (t := 64) (b := true) rfl rfl rfl ?_
         refine wl_off (t := 64) (b := true) rfl rfl rfl ?_
         refine wl_h hS421.toHeld (r_pick_t rfl (v := .bool _) rfl) <| wl_nil <| c_true rfl <| c_seq <| c_region <| wl_h hS421.toHeld (r_assign (v := .int .i64 _) rfl) ?_
         refine wl_nil <| c_ret <| q_retb <| q_retl <| q_retb ?_
         refine ret_tmp (t := 2) rfl (v := .int .i64 _) rfl ?_
         obtain rfl := some_eq hM
         have hS423 := hS421.weaken (.cons _ (.cons _ (.refl _)))
         exact ⟨rfl, hS423⟩
        ·replace hM := bif_f h422 hM
         refine wl_on (t := 56) rfl rfl ?_
         refine wl_h hS421.toHeld (r_fieldAddr fld120_3 (b := _) (o := _) rfl) <| wl_on (t := 56) rfl rfl ?_
         refine wl_h hS421.toHeld (r_box ty3 (k := 3) .here rfl rfl rfl (v := .int .i64 _) rfl) <| wl_on (t := 56) rfl rfl ?_
         refine wl_h hS421.toHeld (r_fieldAddr fld120_2 (b := _) (o := _) rfl) <| wl_on (t := 56) rfl rfl ?_
         refine wl_h hS421.toHeld (r_box ty3 (k := 2) .here rfl rfl rfl (v := .int .i64 _) rfl) <| wl_on (t := 56) rfl rfl ?_
         obtain ⟨r424, hq425, hM⟩ := bnd_ok hM
         refine wl_call ent64 (vals := [.int .i64 _, .int .i64 _, .int .i64 _]) rfl (cg64 hS421 hq425) ?_
         rintro _ w427 ⟨rfl, hS428⟩
         refine wl_on (t := 56) rfl rfl ?_
         refine wl_h hS428.toHeld (r_not (b := _) rfl) <| wl_h hS428.toHeld (r_pick_f rfl (v := .bool _) rfl) <| wl_h hS428.toHeld (r_move (v := .bool _) rfl) <| wl_split rfl (c := _) (t := 64) (fun h429 => ?_) (fun h429 => ?_)
         ·replace hM := bif_t h429 hM
          refine wl_off (t := 64) (b := true) rfl rfl rfl ?_
          refine wl_off (t := 64) (b := true) rfl rfl rfl ?_
          refine wl_off (t := 64) (b := true) rfl rfl rfl ?_
          refine wl_off (t := 64) (b := true) rfl rfl rfl ?_
          refine wl_h hS428.toHeld (r_pick_t rfl (v := .bool _) rfl) <| wl_nil <| c_true rfl <| c_seq <| c_region <| wl_h hS428.toHeld (r_assign (v := .int .i64 _) rfl) ?_
          refine wl_nil <| c_ret <| q_retb <| q_retl <| q_retb ?_
          refine ret_tmp (t := 2) rfl (v := .int .i64 _) rfl ?_
          obtain rfl := some_eq hM
          have hS430 := hS428.weaken (.cons _ (.cons _ (.refl _)))
          exact ⟨rfl, hS430⟩
         ·replace hM := bif_f h429 hM
          refine wl_on (t := 64) rfl rfl ?_
          refine wl_h hS428.toHeld (r_fieldAddr fld120_4 (b := _) (o := _) rfl) <| wl_on (t := 64) rfl rfl ?_
          refine wl_h hS428.toHeld (r_box ty3 (k := 4) .here rfl rfl rfl (v := .int .i64 _) rfl) <| wl_on (t := 64) rfl rfl ?_
          obtain ⟨r431, hq432, hM⟩ := bnd_ok hM
          refine wl_call ent64 (vals := [.int .i64 _, .int .i64 _, .int .i64 _]) rfl (cg64 hS428 hq432) ?_
          rintro _ w434 ⟨rfl, hS435⟩
          refine wl_on (t := 64) rfl rfl ?_
          refine wl_h hS435.toHeld (r_not (b := _) rfl) <| wl_h hS435.toHeld (r_pick_f rfl (v := .bool _) rfl) <| wl_nil <| c_cond (c := _) rfl (fun h436 => ?_) (fun h436 => ?_)
          ·replace hM := bif_t h436 hM
           refine c_seq <| c_region <| wl_h hS435.toHeld (r_assign (v := .int .i64 _) rfl) <| wl_nil <| c_ret <| q_retb ?_
           refine q_retl <| q_retb <| ret_tmp (t := 2) rfl (v := .int .i64 _) rfl ?_
           obtain rfl := some_eq hM
           have hS437 := hS435.weaken (.cons _ (.cons _ (.refl _)))
           exact ⟨rfl, hS437⟩
          ·replace hM := bif_f h436 hM
           refine c_skip <| c_nil <| q_norm <| c_region <| wl_h hS435.toHeld (r_move (v := .int .i64 _) rfl) ?_
           obtain ⟨hc438, hM⟩ := chk_ok hM
           refine wl_h hS435.toHeld (r_add (a := _) (b := _) rfl rfl (ok_lo hc438) (ok_hi hc438)) <| wl_h hS435.toHeld (r_assign (v := .int .i64 _) rfl) <| wl_nil <| c_nil <| q_loop ?_
           have hS439 := hS435.weaken (.cons _ (.cons_cons _ (.refl _)))
           exact ⟨k_0, Nat.lt_succ_self _, i380 + 1, hM, hS439, rfl, rfl, rfl⟩
     ·replace hM := bif_f h388 hM
      refine c_exit <| q_loopx <| q_hit <| c_seq <| c_seq <| c_region <| wl_h hS384.toHeld (r_fieldAddr fld53_1 (b := _) (o := _) rfl) ?_
      refine wl_h hS384.toHeld (r_box ty23 (k := 1) .here rfl rfl rfl (v := .slice _ _ _) rfl) <| wl_h hS384.toHeld (r_len Tryz.underlying23 (a := _) (n := _) (c := _) rfl) <| wl_h hS384.toHeld (r_move (v := .int .i64 _) rfl) ?_
      obtain ⟨hc440, hM⟩ := chk_ok hM
      refine wl_h hS384.toHeld (r_add (a := _) (b := _) rfl rfl (ok_lo hc440) (ok_hi hc440)) <| wl_h hS384.toHeld (r_neq (a := _) (b := _) rfl rfl) <| wl_nil <| c_cond (c := _) rfl (fun h441 => ?_) (fun h441 => ?_)
      ·replace hM := bif_t h441 hM
       refine c_seq <| c_region <| wl_h hS384.toHeld (r_assign (v := .int .i64 _) rfl) <| wl_nil <| c_ret <| ret_tmp (t := 2) rfl (v := .int .i64 _) rfl ?_
       obtain rfl := some_eq hM
       have hS442 := hS384.weaken (.cons _ (.refl _))
       exact ⟨rfl, hS442⟩
      ·replace hM := bif_f h441 hM
       refine c_skip <| c_seq <| c_seq <| c_region <| wl_h hS384.toHeld (r_assign (v := .int .i64 _) rfl) ?_
       refine wl_nil <| c_block <| c_loop (fun k f w => ∃ (i580 : Int), mg19_l1 fuel f3 k i580 = some r ∧ St w m (.box b13 53 [.slice a4 f3.stops.length c6, .slice a8 f3.minutes.length c10, .int .i64 f3.cap, .int .i64 f3.start, .int .i64 f3.back] :: L) ∧ f 1 = .pointer (some ⟨b13, 0, none⟩) ∧ f 3 = .int .i64 ((f3.stops.length : Nat) : Int) ∧ f 6 = .int .i64 i580) fuel ⟨0, hM, hS384, rfl, rfl, rfl⟩ ?_
       rintro k_1 f581 w582 ⟨i580, hM, hS584, e585, e586, e587⟩
       refine c_know (t := 1) e585 <| c_know (t := 3) e586 <| c_know (t := 6) e587 ?_
       clear e585 e586 e587
       rcases k_1 with _ | k_1
       · exact none_ne hM
       rw [mg19_l1] at hM
       refine c_seq <| c_seq <| c_region <| wl_h hS584.toHeld (r_move (v := .int .i64 _) rfl) <| wl_h hS584.toHeld (r_move (v := .int .i64 _) rfl) ?_
       refine wl_h hS584.toHeld (r_leq (a := _) (b := _) rfl rfl) <| wl_nil <| c_cond (c := _) rfl (fun h588 => ?_) (fun h588 => ?_)
       ·replace hM := bif_t h588 hM
        refine c_skip <| c_seq <| c_block <| c_seq <| c_seq <| c_region <| wl_h hS584.toHeld (r_fieldAddr fld53_1 (b := _) (o := _) rfl) ?_
        refine wl_h hS584.toHeld (r_box ty23 (k := 1) .here rfl rfl rfl (v := .slice _ _ _) rfl) <| wl_h hS584.toHeld (r_move (v := .int .i64 _) rfl) ?_
        obtain ⟨x589, hx590, h591, h592, hM⟩ := getK_ok hM
        obtain ⟨b593, o594, rfl⟩ := RSl.elem_a hr11 hx590
        obtain ⟨cs595, hI596, hR597⟩ := RSl.elem_at hr11 hx590
        obtain ⟨a598, n599, c600, rfl, hr601⟩ := hR597
        obtain rfl := hr601.1
        refine wl_h hS584.toHeld (r_indexAddr Tryz.underlying23 ty26 (b := _) (o := _) (n := _) (c := _) (i := i580) rfl rfl h591 (RSl.lt hr11 h592)) <| wl_h hS584.toHeld (r_imm ty26 (k := 0) hI596 rfl rfl rfl (v := .slice _ _ _) rfl) <| wl_h hS584.toHeld (r_len Tryz.underlying26 (a := _) (n := _) (c := _) rfl) <| wl_h hS584.toHeld (r_move (v := .int .i64 _) rfl) ?_
        obtain ⟨hc602, hM⟩ := chk_ok hM
        refine wl_h hS584.toHeld (r_add (a := _) (b := _) rfl rfl (ok_lo hc602) (ok_hi hc602)) <| wl_h hS584.toHeld (r_neq (a := _) (b := _) rfl rfl) <| wl_nil <| c_cond (c := _) rfl (fun h603 => ?_) (fun h603 => ?_)
        ·replace hM := bif_t h603 hM
         refine c_seq <| c_region <| wl_h hS584.toHeld (r_assign (v := .int .i64 _) rfl) <| wl_nil <| c_ret <| q_retb ?_
         refine q_retl <| q_retb <| ret_tmp (t := 2) rfl (v := .int .i64 _) rfl ?_
         obtain rfl := some_eq hM
         have hS604 := hS584.weaken (.cons _ (.refl _))
         exact ⟨rfl, hS604⟩
        ·replace hM := bif_f h603 hM
         refine c_skip <| c_seq <| c_region <| wl_h hS584.toHeld (r_assign (v := .int .i64 _) rfl) <| wl_nil <| c_block <| c_loop (fun k f w => ∃ (k660 : Int), mg19_l2 fuel f3 i580 (mg19_l1 fuel f3 k_1) k k660 = some r ∧ St w m (.box b13 53 [.slice a4 f3.stops.length c6, .slice (some ⟨b593, o594, none⟩) f3.minutes.length c10, .int .i64 f3.cap, .int .i64 f3.start, .int .i64 f3.back] :: L) ∧ f 1 = .pointer (some ⟨b13, 0, none⟩) ∧ f 3 = .int .i64 ((f3.stops.length : Nat) : Int) ∧ f 6 = .int .i64 i580 ∧ f 7 = .int .i64 k660) fuel ⟨0, hM, hS584, rfl, rfl, rfl, rfl⟩ ?_
         rintro k_2 f661 w662 ⟨k660, hM, hS664, e665, e666, e667, e668⟩
         refine c_know (t := 1) e665 <| c_know (t := 3) e666 <| c_know (t := 6) e667 <| c_know (t := 7) e668 ?_
         clear e665 e666 e667 e668
         rcases k_2 with _ | k_2
         · exact none_ne hM
         rw [mg19_l2] at hM
         refine c_seq <| c_seq <| c_region <| wl_h hS664.toHeld (r_move (v := .int .i64 _) rfl) <| wl_h hS664.toHeld (r_move (v := .int .i64 _) rfl) ?_
         refine wl_h hS664.toHeld (r_leq (a := _) (b := _) rfl rfl) <| wl_nil <| c_cond (c := _) rfl (fun h669 => ?_) (fun h669 => ?_)
         ·replace hM := bif_t h669 hM
          refine c_skip <| c_seq <| c_block <| c_seq <| c_region <| wl_h hS664.toHeld (r_fieldAddr fld53_1 (b := _) (o := _) rfl) ?_
          refine wl_h hS664.toHeld (r_box ty23 (k := 1) .here rfl rfl rfl (v := .slice _ _ _) rfl) <| wl_h hS664.toHeld (r_move (v := .int .i64 _) rfl) ?_
          obtain ⟨x670, hx671, h672, h673, hM⟩ := getK_ok hM
          obtain ⟨cs674, hI675, hR676⟩ := RSl.elem_at hr11 hx671
          obtain ⟨a677, n678, c679, rfl, hr680⟩ := hR676
          obtain rfl := hr680.1
          refine wl_h hS664.toHeld (r_indexAddr Tryz.underlying23 ty26 (b := _) (o := _) (n := _) (c := _) (i := i580) rfl rfl h672 (RSl.lt hr11 h673)) <| wl_h hS664.toHeld (r_imm ty26 (k := 0) hI675 rfl rfl rfl (v := .slice _ _ _) rfl) <| wl_h hS664.toHeld (r_move (v := .int .i64 _) rfl) ?_
          obtain ⟨x681, hx682, h683, h684, hM⟩ := getK_ok hM
          obtain ⟨b685, o686, rfl⟩ := RSl.elem_a hr680 hx682
          obtain ⟨cs687, hI688, hR689⟩ := RSl.elem_at hr680 hx682
          obtain rfl := hR689
          refine wl_h hS664.toHeld (r_indexAddr Tryz.underlying26 ty3 (b := _) (o := _) (n := _) (c := _) (i := k660) rfl rfl h683 (RSl.lt hr680 h684)) <| wl_h hS664.toHeld (r_imm ty3 (k := 0) hI688 rfl rfl rfl (v := .int .i64 _) rfl) ?_
          obtain ⟨r690, hq691, hM⟩ := bnd_ok hM
          refine wl_call ent64 (vals := [.int .i64 _, .int .i64 _, .int .i64 _]) rfl (cg64 hS664 hq691) ?_
          rintro _ w693 ⟨rfl, hS694⟩
          refine wl_h hS694.toHeld (r_not (b := _) rfl) <| wl_h hS694.toHeld (r_move (v := .bool _) rfl) <| wl_split rfl (c := _) (t := 105) (fun h695 => ?_) (fun h695 => ?_)
          ·replace hM := bif_t h695 hM
           refine wl_off (t := 105) (b := true) rfl rfl rfl ?_
           refine wl_off (t := 105) (b := true) rfl rfl rfl ?_
           refine wl_off (t := 105) (b := true) rfl rfl rfl ?_
           refine wl_off (t := 105) (b := true) rfl rfl rfl ?_
           refine wl_none (t := 109) rfl rfl ?_
           refine wl_none (t := 109) rfl rfl ?_
           refine wl_none (t := 109) rfl rfl ?_
           refine wl_none (t := 109) rfl rfl ?_
           refine wl_none (t := 109) rfl rfl ?_
           refine wl_none (t := 109) rfl rfl ?_
           refine wl_none (t := 109) rfl rfl ?_
           refine wl_none (t := 109) rfl rfl ?_
           refine wl_none (t := 109) rfl rfl ?_
           refine wl_off (t := 105) (b := true) rfl rfl rfl ?_
           refine wl_h hS694.toHeld (r_pick_t rfl (v := .bool _) rfl) <| wl_nil <| c_true rfl <| c_seq <| c_region <| wl_h hS694.toHeld (r_assign (v := .int .i64 _) rfl) ?_
           refine wl_nil <| c_ret <| q_retb <| q_retl <| q_retb ?_
           refine q_retb <| q_retl <| q_retb <| ret_tmp (t := 2) rfl (v := .int .i64 _) rfl ?_
           obtain rfl := some_eq hM
           have hS696 := hS694.weaken (.cons _ (.refl _))
           exact ⟨rfl, hS696⟩
          ·replace hM := bif_f h695 hM
           refine wl_on (t := 105) rfl rfl ?_
           refine wl_h hS694.toHeld (r_move (v := .int .i64 _) rfl) <| wl_on (t := 105) rfl rfl ?_
           refine wl_h hS694.toHeld (r_move (v := .int .i64 _) rfl) <| wl_on (t := 105) rfl rfl ?_
           refine wl_h hS694.toHeld (r_eql (a := _) (b := _) rfl rfl) <| wl_on (t := 105) rfl rfl ?_
           refine wl_h hS694.toHeld (r_move (v := .bool _) rfl) <| wl_split rfl (c := _) (t := 109) (fun h697 => ?_) (fun h697 => ?_)
           ·replace hM := bif_t h697 hM
            refine wl_on (t := 109) rfl rfl ?_
            refine wl_h hS694.toHeld (r_fieldAddr fld53_1 (b := _) (o := _) rfl) <| wl_on (t := 109) rfl rfl ?_
            refine wl_h hS694.toHeld (r_box ty23 (k := 1) .here rfl rfl rfl (v := .slice _ _ _) rfl) <| wl_on (t := 109) rfl rfl ?_
            refine wl_h hS694.toHeld (r_move (v := .int .i64 _) rfl) <| wl_on (t := 109) rfl rfl ?_
            obtain ⟨x698, hx699, h700, h701, hM⟩ := getK_ok hM
            obtain ⟨cs702, hI703, hR704⟩ := RSl.elem_at hr11 hx699
            obtain ⟨a705, n706, c707, rfl, hr708⟩ := hR704
            obtain rfl := hr708.1
            refine wl_h hS694.toHeld (r_indexAddr Tryz.underlying23 ty26 (b := _) (o := _) (n := _) (c := _) (i := i580) rfl rfl h700 (RSl.lt hr11 h701)) <| wl_on (t := 109) rfl rfl ?_
            refine wl_h hS694.toHeld (r_imm ty26 (k := 0) hI703 rfl rfl rfl (v := .slice _ _ _) rfl) <| wl_on (t := 109) rfl rfl ?_
            refine wl_h hS694.toHeld (r_move (v := .int .i64 _) rfl) <| wl_on (t := 109) rfl rfl ?_
            obtain ⟨x709, hx710, h711, h712, hM⟩ := getK_ok hM
            obtain ⟨b713, o714, rfl⟩ := RSl.elem_a hr708 hx710
            obtain ⟨cs715, hI716, hR717⟩ := RSl.elem_at hr708 hx710
            obtain rfl := hR717
            refine wl_h hS694.toHeld (r_indexAddr Tryz.underlying26 ty3 (b := _) (o := _) (n := _) (c := _) (i := k660) rfl rfl h711 (RSl.lt hr708 h712)) <| wl_on (t := 109) rfl rfl ?_
            refine wl_h hS694.toHeld (r_imm ty3 (k := 0) hI716 rfl rfl rfl (v := .int .i64 _) rfl) <| wl_on (t := 109) rfl rfl ?_
            refine wl_h hS694.toHeld (r_neq (a := _) (b := _) rfl rfl) <| wl_on (t := 105) rfl rfl ?_
            refine wl_h hS694.toHeld (r_pick_t rfl (v := .bool _) rfl) <| wl_h hS694.toHeld (r_pick_f rfl (v := .bool _) rfl) <| wl_nil <| c_cond (c := _) rfl (fun h718 => ?_) (fun h718 => ?_)
            ·replace hM := bif_t h718 hM
             refine c_seq <| c_region <| wl_h hS694.toHeld (r_assign (v := .int .i64 _) rfl) <| wl_nil <| c_ret <| q_retb ?_
             refine q_retl <| q_retb <| q_retb <| q_retl <| q_retb ?_
             refine ret_tmp (t := 2) rfl (v := .int .i64 _) rfl ?_
             obtain rfl := some_eq hM
             have hS719 := hS694.weaken (.cons _ (.refl _))
             exact ⟨rfl, hS719⟩
            ·replace hM := bif_f h718 hM
             refine c_skip <| c_nil <| q_norm <| c_region <| wl_h hS694.toHeld (r_move (v := .int .i64 _) rfl) ?_
             obtain ⟨hc720, hM⟩ := chk_ok hM
             refine wl_h hS694.toHeld (r_add (a := _) (b := _) rfl rfl (ok_lo hc720) (ok_hi hc720)) <| wl_h hS694.toHeld (r_assign (v := .int .i64 _) rfl) <| wl_nil <| c_nil <| q_loop ?_
             exact ⟨k_2, Nat.lt_succ_self _, k660 + 1, hM, hS694, rfl, rfl, rfl, rfl⟩
           ·replace hM := bif_f h697 hM
            refine wl_off (t := 109) (b := false) rfl rfl rfl ?_
            refine wl_off (t := 109) (b := false) rfl rfl rfl ?_
            refine wl_off (t := 109) (b := false) rfl rfl rfl ?_
            refine wl_off (t := 109) (b := false) rfl rfl rfl ?_
            refine wl_off (t := 109) (b := false) rfl rfl rfl ?_
            refine wl_off (t := 109) (b := false) rfl rfl rfl ?_
            refine wl_off (t := 109) (b := false) rfl rfl rfl ?_
            refine wl_off (t := 109) (b := false) rfl rfl rfl ?_
            refine wl_off (t := 109) (b := false) rfl rfl rfl ?_
            refine wl_on (t := 105) rfl rfl ?_
            refine wl_h hS694.toHeld (r_pick_f rfl (v := .bool _) rfl) <| wl_h hS694.toHeld (r_pick_f rfl (v := .bool _) rfl) <| wl_nil <| c_false rfl <| c_skip <| c_nil <| q_norm <| c_region <| wl_h hS694.toHeld (r_move (v := .int .i64 _) rfl) ?_
            obtain ⟨hc721, hM⟩ := chk_ok hM
            refine wl_h hS694.toHeld (r_add (a := _) (b := _) rfl rfl (ok_lo hc721) (ok_hi hc721)) <| wl_h hS694.toHeld (r_assign (v := .int .i64 _) rfl) <| wl_nil <| c_nil <| q_loop ?_
            exact ⟨k_2, Nat.lt_succ_self _, k660 + 1, hM, hS694, rfl, rfl, rfl, rfl⟩
         ·replace hM := bif_f h669 hM
          refine c_exit <| q_loopx <| q_hit <| c_nil <| q_norm <| c_region <| wl_h hS664.toHeld (r_move (v := .int .i64 _) rfl) ?_
          obtain ⟨hc722, hM⟩ := chk_ok hM
          refine wl_h hS664.toHeld (r_add (a := _) (b := _) rfl rfl (ok_lo hc722) (ok_hi hc722)) <| wl_h hS664.toHeld (r_assign (v := .int .i64 _) rfl) <| wl_nil <| c_nil <| q_loop ?_
          exact ⟨k_1, Nat.lt_succ_self _, i580 + 1, hM, hS664, rfl, rfl, rfl⟩
       ·replace hM := bif_f h588 hM
        refine c_exit <| q_loopx <| q_hit <| c_seq <| c_region <| wl_h hS584.toHeld (r_assign (v := .int .i64 _) rfl) ?_
        refine wl_nil <| c_ret <| ret_tmp (t := 2) rfl (v := .int .i64 _) rfl ?_
        obtain rfl := some_eq hM
        have hS723 := hS584.weaken (.cons _ (.refl _))
        exact ⟨rfl, hS723⟩

theorem cg148 {m : Mem} {L : List Atom} {w : World} {x1 : Int} (hS : St w m L)  {fuel : Nat} {r : Bool} (hM : mg148 fuel x1 = some r) : Calls P0 148 [.int .i64 x1].toArray w (Ret fun v w' => v = .bool r ∧ St w' m (L)) := by
 rw [mg148] at hM
 refine enter Tryz.func148 rfl Tryz.ntmps148 (Nat.le_of_ble_eq_true rfl) ?_
 refine c_seq <| c_region <| wl_h hS.toHeld (r_assign (v := .bool _) rfl) <| wl_nil <| c_seq <| c_region <| wl_h hS.toHeld (r_move (v := .int .i64 _) rfl) ?_
 refine wl_h hS.toHeld (r_move (v := .int .i64 _) rfl) <| wl_h hS.toHeld (r_neq (a := _) (b := _) rfl rfl) <| wl_h hS.toHeld (r_assign (v := .bool _) rfl) <| wl_nil <| c_ret <| ret_tmp (t := 2) rfl (v := .bool _) rfl ?_
 obtain rfl := some_eq hM
 exact ⟨rfl, hS⟩

theorem cg143 {m : Mem} {L : List Atom} {w : World} {x1 : Int} {y2 : Int} (hS : St w m L)  {fuel : Nat} {r : Bool} (hM : mg143 fuel x1 y2 = some r) : Calls P0 143 [.int .i64 x1, .int .i64 y2].toArray w (Ret fun v w' => v = .bool r ∧ St w' m (L)) := by
 rw [mg143] at hM
 refine enter Tryz.func143 rfl Tryz.ntmps143 (Nat.le_of_ble_eq_true rfl) ?_
 refine c_seq <| c_region <| wl_h hS.toHeld (r_assign (v := .bool _) rfl) <| wl_nil <| c_seq <| c_region <| wl_h hS.toHeld (r_move (v := .int .i64 _) rfl) ?_
 obtain ⟨r3, hq4, hM⟩ := bnd_ok hM
 refine wl_call ent148 (vals := [.int .i64 _]) rfl (cg148 hS hq4) ?_
 rintro _ w6 ⟨rfl, hS7⟩
 refine wl_h hS7.toHeld (r_move (v := .bool _) rfl) <| wl_split rfl (c := _) (t := 7) (fun h8 => ?_) (fun h8 => ?_)
 ·replace hM := bif_t h8 hM
  refine wl_on (t := 7) rfl rfl ?_
  refine wl_h hS7.toHeld (r_move (v := .int .i64 _) rfl) <| wl_on (t := 7) rfl rfl ?_
  obtain ⟨r9, hq10, hM⟩ := bnd_ok hM
  refine wl_call ent148 (vals := [.int .i64 _]) rfl (cg148 hS7 hq10) ?_
  rintro _ w12 ⟨rfl, hS13⟩
  refine wl_on (t := 7) rfl rfl ?_
  refine wl_h hS13.toHeld (r_not (b := _) rfl) <| wl_h hS13.toHeld (r_pick_t rfl (v := .bool _) rfl) <| wl_h hS13.toHeld (r_move (v := .bool _) rfl) <| wl_split rfl (c := _) (t := 12) (fun h14 => ?_) (fun h14 => ?_)
  ·replace hM := bif_t h14 hM
   refine wl_off (t := 12) (b := true) rfl rfl rfl ?_
   refine wl_off (t := 12) (b := true) rfl rfl rfl ?_
   refine wl_off (t := 12) (b := true) rfl rfl rfl ?_
   refine wl_h hS13.toHeld (r_pick_t rfl (v := .bool _) rfl) <| wl_h hS13.toHeld (r_assign (v := .bool _) rfl) <| wl_nil <| c_ret <| ret_tmp (t := 4) rfl (v := .bool _) rfl ?_
   obtain rfl := some_eq hM
   exact ⟨rfl, hS13⟩
  ·replace hM := bif_f h14 hM
   refine wl_on (t := 12) rfl rfl ?_
   refine wl_h hS13.toHeld (r_move (v := .int .i64 _) rfl) <| wl_on (t := 12) rfl rfl ?_
   refine wl_h hS13.toHeld (r_move (v := .int .i64 _) rfl) <| wl_on (t := 12) rfl rfl ?_
   refine wl_h hS13.toHeld (r_lss (a := _) (b := _) rfl rfl) <| wl_h hS13.toHeld (r_pick_f rfl (v := .bool _) rfl) <| wl_h hS13.toHeld (r_assign (v := .bool _) rfl) <| wl_nil <| c_ret <| ret_tmp (t := 4) rfl (v := .bool _) rfl ?_
   obtain rfl := some_eq hM
   exact ⟨rfl, hS13⟩
 ·replace hM := bif_f h8 hM
  refine wl_off (t := 7) (b := false) rfl rfl rfl ?_
  refine wl_off (t := 7) (b := false) rfl rfl rfl ?_
  refine wl_off (t := 7) (b := false) rfl rfl rfl ?_
  refine wl_h hS7.toHeld (r_pick_f rfl (v := .bool _) rfl) <| wl_h hS7.toHeld (r_move (v := .bool _) rfl) <| wl_on (t := 12) rfl rfl ?_
  refine wl_h hS7.toHeld (r_move (v := .int .i64 _) rfl) <| wl_on (t := 12) rfl rfl ?_
  refine wl_h hS7.toHeld (r_move (v := .int .i64 _) rfl) <| wl_on (t := 12) rfl rfl ?_
  refine wl_h hS7.toHeld (r_lss (a := _) (b := _) rfl rfl) <| wl_h hS7.toHeld (r_pick_f rfl (v := .bool _) rfl) <| wl_h hS7.toHeld (r_assign (v := .bool _) rfl) <| wl_nil <| c_ret <| ret_tmp (t := 4) rfl (v := .bool _) rfl ?_
  obtain rfl := some_eq hM
  exact ⟨rfl, hS7⟩

theorem cg74 {m : Mem} {L : List Atom} {w : World} (hS : St w m L) {a1 : Option Addr} {n2 c3 : Nat} {s5 : List Int} (hr4 : RSl 1 RInt m a1 n2 c3 s5) : Calls P0 74 [.slice a1 n2 c3].toArray w (Ret fun v w' => ∃ b, v = .func (.func 114) #[] #[.pointer (some ⟨b, 0, none⟩)] ∧ St w' m (.box b 26 [.slice a1 n2 c3] :: L)) := by
 obtain rfl := hr4.1
 refine enter Tryz.func74 rfl Tryz.ntmps74 (Nat.le_of_ble_eq_true rfl) ?_
 refine c_seq <| c_region <| wl_box hS (v := .slice _ _ _) rfl (cs := [.slice _ _ _]) rfl ?_
 intro b6 w7 hS8
 refine wl_h hS8.toHeld (r_assign (v := .nilFunc) rfl) <| wl_nil <| c_seq <| c_region <| wl_h hS8.toHeld (r_makeFunc (vs := [.pointer (some ⟨_, _, none⟩)]) rfl) ?_
 refine wl_h hS8.toHeld (r_assign (v := .func (.func 114) #[] #[.pointer (some ⟨_, _, none⟩)]) rfl) <| wl_nil <| c_ret <| ret_tmp (t := 2) rfl (v := .func (.func 114) #[] #[.pointer (some ⟨_, _, none⟩)]) rfl ?_
 exact ⟨_, rfl, hS8⟩

theorem cg107 {m : Mem} {L : List Atom} {w : World} {cs1 : List Value} {f3 : Fleet} {a13 : Option Addr} {n14 c15 : Nat} {stops17 : List Int} (hS : St w m L) (hx2 : RFleet m cs1 f3) (hr16 : RSl 1 RInt m a13 n14 c15 stops17) {fuel : Nat} {r : Int} (hM : mg107 fuel f3 stops17 = some r) : Calls P0 107 [.agg cs1.toArray, .slice a13 n14 c15].toArray w (Ret fun v w' => v = .int .i64 r ∧ St w' m (L)) := by
 rw [mg107] at hM
 have hk12 := hx2
 obtain ⟨a4, n5, c6, a8, n9, c10, rfl, hr7, hr11⟩ := hx2
 obtain rfl := hr7.1
 obtain rfl := hr11.1
 obtain rfl := hr16.1
 refine enter Tryz.func107 rfl Tryz.ntmps107 (Nat.le_of_ble_eq_true rfl) ?_
 refine c_seq <| c_region <| wl_box hS (v := .agg #[.slice _ _ _, .slice _ _ _, .int .i64 _, .int .i64 _, .int .i64 _]) rfl (cs := [.slice _ _ _, .slice _ _ _, .int .i64 _, .int .i64 _, .int .i64 _]) rfl ?_
 intro b18 w19 hS20
 refine wl_h hS20.toHeld (r_assign (v := .int .i64 _) rfl) <| wl_nil <| c_seq <| c_region <| wl_h hS20.toHeld (r_assign (v := .int .i64 _) rfl) ?_
 refine wl_nil <| c_seq <| c_seq <| c_region <| wl_h hS20.toHeld (r_move (v := .slice _ _ _) rfl) ?_
 refine wl_h hS20.toHeld (r_len Tryz.underlying26 (a := _) (n := _) (c := _) rfl) <| wl_h hS20.toHeld (r_move (v := .int .i64 _) rfl) <| wl_nil <| c_block <| c_loop (fun k f w => ∃ (n45 : Int) (x46 : Int), mg107_l0 fuel f3 stops17 k n45 x46 = some r ∧ St w m (.box b18 25 [.slice a4 f3.stops.length c6, .slice a8 f3.minutes.length c10, .int .i64 f3.cap, .int .i64 f3.start, .int .i64 f3.back] :: L) ∧ f 2 = .pointer (some ⟨b18, 0, none⟩) ∧ f 5 = .int .i64 n45 ∧ f 8 = .slice a13 stops17.length c15 ∧ f 9 = .int .i64 ((stops17.length : Nat) : Int) ∧ f 10 = .int .i64 x46) fuel ⟨0, 0, hM, hS20, rfl, rfl, rfl, rfl, rfl⟩ ?_
 rintro k_0 f47 w48 ⟨n45, x46, hM, hS50, e51, e52, e53, e54, e55⟩
 refine c_know (t := 2) e51 <| c_know (t := 5) e52 <| c_know (t := 8) e53 <| c_know (t := 9) e54 <| c_know (t := 10) e55 ?_
 clear e51 e52 e53 e54 e55
 rcases k_0 with _ | k_0
 · exact none_ne hM
 rw [mg107_l0] at hM
 refine c_seq <| c_region <| wl_h hS50.toHeld (r_lss (a := _) (b := _) rfl rfl) <| wl_nil <| c_seq <| c_cond (c := _) rfl (fun h56 => ?_) (fun h56 => ?_)
 ·replace hM := bif_t h56 hM
  refine c_skip <| c_seq <| c_block <| c_seq <| c_region ?_
  obtain ⟨x57, hx58, h59, h60, hM⟩ := getK_ok hM
  obtain ⟨b61, o62, rfl⟩ := RSl.elem_a hr16 hx58
  obtain ⟨cs63, hI64, hR65⟩ := RSl.elem_at hr16 hx58
  obtain rfl := hR65
  refine wl_h hS50.toHeld (r_indexAddr Tryz.underlying26 ty3 (b := _) (o := _) (n := _) (c := _) (i := x46) rfl rfl h59 (RSl.lt hr16 h60)) <| wl_h hS50.toHeld (r_imm ty3 (k := 0) hI64 rfl rfl rfl (v := .int .i64 _) rfl) <| wl_h hS50.toHeld (r_assign (v := .int .i64 _) rfl) <| wl_nil <| c_region <| wl_h hS50.toHeld (r_move (v := .int .i64 _) rfl) ?_
  refine wl_h hS50.toHeld (r_fieldAddr fld25_0 (b := _) (o := _) rfl) <| wl_h hS50.toHeld (r_box ty22 (k := 0) .here rfl rfl rfl (v := .slice _ _ _) rfl) <| wl_h hS50.toHeld (r_move (v := .int .i64 _) rfl) ?_
  obtain ⟨x66, hx67, h68, h69, hM⟩ := getK_ok hM
  obtain ⟨b70, o71, rfl⟩ := RSl.elem_a hr7 hx67
  obtain ⟨cs72, hI73, hR74⟩ := RSl.elem_at hr7 hx67
  obtain rfl := hR74
  refine wl_h hS50.toHeld (r_indexAddr Tryz.underlying22 ty34 (b := _) (o := _) (n := _) (c := _) (i := x57) rfl rfl h68 (RSl.lt hr7 h69)) <| wl_h hS50.toHeld (r_fieldAddr fld34_0 (b := _) (o := _) rfl) <| wl_h hS50.toHeld (r_imm ty3 (k := 0) hI73 rfl rfl rfl (v := .int .i64 _) rfl) ?_
  obtain ⟨hc75, hM⟩ := chk_ok hM
  refine wl_h hS50.toHeld (r_add (a := _) (b := _) rfl rfl (ok_lo hc75) (ok_hi hc75)) <| wl_h hS50.toHeld (r_assign (v := .int .i64 _) rfl) <| wl_nil <| c_nil <| q_norm <| c_region ?_
  obtain ⟨hc76, hM⟩ := chk_ok hM
  refine wl_h hS50.toHeld (r_add (a := _) (b := _) rfl rfl (ok_lo hc76) (ok_hi hc76)) <| wl_h hS50.toHeld (r_move (v := .int .i64 _) rfl) <| wl_nil <| c_nil <| q_loop ?_
  exact ⟨k_0, Nat.lt_succ_self _, n45 + x66.load, x46 + 1, hM, hS50, rfl, rfl, rfl, rfl, rfl⟩
 ·replace hM := bif_f h56 hM
  refine c_exit <| q_loopx <| q_hit <| c_seq <| c_region <| wl_h hS50.toHeld (r_move (v := .int .i64 _) rfl) ?_
  refine wl_h hS50.toHeld (r_assign (v := .int .i64 _) rfl) <| wl_nil <| c_ret <| ret_tmp (t := 4) rfl (v := .int .i64 _) rfl ?_
  obtain rfl := some_eq hM
  have hS77 := hS50.weaken (.cons _ (.refl _))
  exact ⟨rfl, hS77⟩

theorem cg114 {σ H : Type} {m : Mem} {M : H → Mem} {F : σ → H → Prop} {A : σ → H → List Atom} {y : σ → Int → Option σ} {l : Nat} (hMm : ∀ s h, F s h → m ≤ M h) (hy : ∀ (E : List Atom) (w : World) (s : σ) (h : H) (x0 : Int) (s' : σ), F s h → St w (M h) (A s h ++ E) → y s x0 = some s' → K.Yields P0 l [.int .i64 x0] w (fun v w' => v = .bool true ∧ ∃ h', F s' h' ∧ St w' (M h') (A s' h' ++ E))) {b1 : Nat} {a3 : Option Addr} {n4 c5 : Nat} {y7 : (List Int)} (hr6 : RSl 1 RInt m a3 n4 c5 y7) (hb2 : ∀ s h, F s h → K.Own (A s h) (.box b1 26 [.slice a3 n4 c5])) {w : World} {s0 : σ} {h0 : H} {E : List Atom} (hF : F s0 h0) (hS : St w (M h0) (A s0 h0 ++ E)) {fuel : Nat} {r : σ} (hM : mg114 fuel y s0 y7 = some r) : Calls P0 114 [.func (.yield l) #[] #[], .pointer (some ⟨b1, 0, none⟩)].toArray w (Ret fun v w' => v = .tuple #[] ∧ ∃ h', F r h' ∧ St w' (M h') (A r h' ++ E)) := by
 rw [mg114] at hM
 obtain rfl := hr6.1
 have hr6c := RSl.mono RInt.mono hr6 (hMm _ _ hF)
 refine enter Tryz.func114 rfl Tryz.ntmps114 (Nat.le_of_ble_eq_true rfl) ?_
 refine c_seq <| c_region <| wl_h hS.toHeld (r_box ty26 (k := 0) (K.Own.left (hb2 _ _ hF)) rfl rfl rfl (v := .slice _ _ _) rfl) <| wl_h hS.toHeld (r_len Tryz.underlying26 (a := _) (n := _) (c := _) rfl) <| wl_h hS.toHeld (r_move (v := .int .i64 _) rfl) ?_
 refine wl_nil <| c_block <| c_loop (fun k f w => ∃ (s47 : σ) (x50 : Int) (h48 : H), mg114_l0 fuel y y7 k s47 x50 = some r ∧ F s47 h48 ∧ St w (M h48) ((A s47 h48 ++ E)) ∧ f 0 = .func (.yield l) #[] #[] ∧ f 5 = .slice a3 y7.length c5 ∧ f 6 = .int .i64 ((y7.length : Nat) : Int) ∧ f 7 = .int .i64 x50) fuel ⟨s0, 0, h0, hM, hF, hS, rfl, rfl, rfl, rfl⟩ ?_
 rintro k_0 f51 w52 ⟨s47, x50, h48, hM, hF49, hS54, e55, e56, e57, e58⟩
 replace hr6c := RSl.mono RInt.mono hr6 (hMm _ _ hF49)
 refine c_know (t := 0) e55 <| c_know (t := 5) e56 <| c_know (t := 6) e57 <| c_know (t := 7) e58 ?_
 clear e55 e56 e57 e58
 rcases k_0 with _ | k_0
 · exact none_ne hM
 rw [mg114_l0] at hM
 refine c_seq <| c_region <| wl_h hS54.toHeld (r_lss (a := _) (b := _) rfl rfl) <| wl_nil <| c_seq <| c_cond (c := _) rfl (fun h59 => ?_) (fun h59 => ?_)
 ·replace hM := bif_t h59 hM
  refine c_skip <| c_seq <| c_block <| c_seq <| c_region ?_
  obtain ⟨x60, hx61, h62, h63, hM⟩ := getK_ok hM
  obtain ⟨b64, o65, rfl⟩ := RSl.elem_a hr6c hx61
  obtain ⟨cs66, hI67, hR68⟩ := RSl.elem_at hr6c hx61
  obtain rfl := hR68
  refine wl_h hS54.toHeld (r_indexAddr Tryz.underlying26 ty3 (b := _) (o := _) (n := _) (c := _) (i := x50) rfl rfl h62 (RSl.lt hr6c h63)) <| wl_h hS54.toHeld (r_imm ty3 (k := 0) hI67 rfl rfl rfl (v := .int .i64 _) rfl) <| wl_h hS54.toHeld (r_assign (v := .int .i64 _) rfl) <| wl_nil <| c_seq <| c_region <| wl_h hS54.toHeld (r_move (v := .func (.yield l) #[] #[]) rfl) ?_
  refine wl_h hS54.toHeld (r_move (v := .int .i64 _) rfl) ?_
  obtain ⟨s69, hq70, hM⟩ := bnd_ok hM
  refine wl_yield rfl (vals := [.int .i64 _]) rfl (hy E _ _ _ _ _ hF49 hS54 hq70) ?_
  rintro _ w73 ⟨rfl, h71, hF72, hS74⟩
  replace hr6c := RSl.mono RInt.mono hr6 (hMm _ _ hF72)
  refine wl_h hS74.toHeld (r_not (b := _) rfl) <| wl_nil <| c_false rfl <| c_skip <| c_nil <| q_norm <| c_region ?_
  obtain ⟨hc75, hM⟩ := chk_ok hM
  refine wl_h hS74.toHeld (r_add (a := _) (b := _) rfl rfl (ok_lo hc75) (ok_hi hc75)) <| wl_h hS74.toHeld (r_move (v := .int .i64 _) rfl) <| wl_nil <| c_nil <| q_loop ?_
  exact ⟨k_0, Nat.lt_succ_self _, s69, x50 + 1, h71, hM, hF72, hS74, rfl, rfl, rfl, rfl⟩
 ·replace hM := bif_f h59 hM
  refine c_exit <| q_loopx <| q_hit <| c_nil <| end_none rfl ?_
  obtain rfl := some_eq hM
  exact ⟨rfl, h48, hF49, hS54⟩

theorem cg131 {m : Mem} {L : List Atom} {w : World} {b1 : Nat} {a3 : Option Addr} {n4 c5 : Nat} {y7 : (List Int)} (hS : St w m L) (hr6 : RSl 1 RInt m a3 n4 c5 y7) (hb2 : K.Own L (.box b1 26 [.slice a3 n4 c5])) {fuel : Nat} {r : (List Int)} (hM : mg131 fuel y7 = some r) : Calls P0 131 [.slice none 0 0, .func (.func 114) #[] #[.pointer (some ⟨b1, 0, none⟩)]].toArray w (Ret fun v w' => ∃ (a0 : Option Addr) (n0 : Nat) (c0 : Nat) (cs0 : List Value), v = .slice a0 n0 c0 ∧ n0 = r.length ∧ RCs 1 RInt m cs0 r ∧ St w' m (.row (.slice a0 n0 c0) 3 1 cs0 :: L)) := by
 rw [mg131] at hM
 obtain rfl := hr6.1
 refine enter Tryz.func131 rfl Tryz.ntmps131 (Nat.le_of_ble_eq_true rfl) ?_
 refine c_seq <| c_region <| wl_box hS (v := .slice _ _ _) rfl (cs := [.slice _ _ _]) rfl ?_
 intro b8 w9 hS10
 refine wl_h hS10.toHeld (r_assign (v := .slice _ _ _) rfl) <| wl_nil <| c_seq <| c_seq <| c_region <| wl_h hS10.toHeld (r_move (v := .func (.func 114) #[] #[.pointer (some ⟨_, _, none⟩)]) rfl) ?_
 refine wl_nil <| c_block ?_
 have hS77 := hS10.nilRow 3 1
 have hrc78 : RCs 1 RInt m [] ([] : List Int) := RCs.nil
 refine c_rangeFunc ent114 (caps := [.pointer (some ⟨_, _, none⟩)]) rfl hS77 (fun fn86 D11 l11 w87 q11 hq88 hS89 => ?_)
 obtain ⟨r90, hq91, hM⟩ := bnd_ok hM
 refine Calls.ret_mono (cg114 (σ := (List Int)) (H := (Option Addr) × Nat × Nat × (List Value)) (m := m) (M := fun h => m) (F := fun s h => h.2.1 = s.length ∧ RCs 1 RInt m h.2.2.2 s) (A := fun s h => .raw l11 (.loop q11) :: .raw D11 (.deferred (some [])) :: .row (.slice h.1 h.2.1 h.2.2.1) 3 1 h.2.2.2 :: .box b8 26 [.slice h.1 h.2.1 h.2.2.1] :: L) (y := (fun s x11_0 => mg131_r11 fuel  s x11_0)) (l := l11) (fun _ _ _ => Mem.le_refl _) ?_ hr6 (fun _ _ _ => (.there (.there (.there (.there hb2))))) (s0 := ([] : List Int)) (h0 := ⟨none, 0, 0, []⟩) (E := []) ⟨row_n (hS77.toHeld.own .here) hrc78 (by decide), hrc78⟩ (by simpa using hS89) hq91) ?_
 ·rintro E w94 l79 ⟨a80, n81, c82, cs83⟩ x93 s' ⟨hn84, hrc85⟩ hS92 hM
  subst hn84
  simp only [List.cons_append] at hS92
  change mg131_r11 fuel  l79 x93 = some s' at hM
  rw [mg131_r11] at hM
  refine yields_of (ps := [7]) hS92 (congrArg Loop.state hq88) (congrArg Loop.pending hq88) (congrArg Loop.tmps hq88) (congrArg Loop.params hq88) (congrArg Loop.assign hq88) (congrArg Loop.body hq88) rfl ?_
  refine c_region <| wl_h hS92.toHeld (r_assign (v := .int .i64 _) rfl) <| wl_nil <| c_nil <| ⟨_, _, hS92, fun w95 hS96 => ?_⟩
  refine c_block <| c_region <| wl_h hS96.toHeld (r_box ty26 (k := 0) (.there (.there (.there .here))) rfl rfl rfl (v := .slice _ _ _) rfl) <| wl_h hS96.toHeld (r_move (v := .int .i64 _) rfl) <| wl_buildSlice Tryz.underlying26 ty3 rfl (by decide) (by decide) hS96 (ps := [(0, [.int .i64 _])]) rfl rfl (cs := [.int .i64 _]) rfl rfl (by decide) ?_
  intro b98 w99 hS100
  have hrc101 : RCs 1 RInt m [.int .i64 x93] ([x93] : List Int) := (RCs.cons (d := [.int .i64 x93]) rfl rfl RCs.nil)
  obtain ⟨hc102, hM⟩ := chk_ok hM
  refine wl_append_src Tryz.underlying26 ty3 rfl (by decide) hS100 (a := _) (nn := _) (c := _) rfl (a2 := _) (k2 := _) (c2 := _) rfl (.there (.there (.there .here))) (row_src (hS100.toHeld.own .here) (RCs.allOne RInt.one (by decide) hrc101)) (lim_b hc102 rfl) (lim_a hc102) ?_
  intro a103 c104 w105 hS106
  have hrc108 := RCs.append hrc85 hrc101
  generalize cs83 ++ [.int .i64 x93] = cs109 at hS106 hrc108
  have hS110 := hS106.weaken (.cons_cons _ (.cons _ (.cons_cons _ (.cons_cons _ (.cons_cons _ (.refl _))))))
  refine wl_store_box ty26 hS110 rfl (v := .slice _ _ _) rfl (vs := [.slice _ _ _]) rfl rfl rfl (.there (.there (.there .here))) (cs' := [.slice _ _ _]) rfl rfl ?_
  intro w111 hS112
  refine wl_nil <| c_nil <| q_norm <| c_nil ?_
  have hS113 := hS112.front (.there (.there (.there .here)))
  have hS114 := hS113.front (.there .here)
  have hS115 := hS114.front (.there (.there (.there .here)))
  have hS116 := hS115.front (.there (.there (.there .here)))
  obtain rfl := some_eq hM
  refine ⟨_, _, hS116, fun w117 hS118 => ?_⟩
  exact ⟨rfl, ⟨a103, (l79.length + 1), c104, cs109⟩, ⟨row_n (hS116.toHeld.own (.there (.there .here))) hrc108 (by decide), hrc108⟩, hS118⟩
 ·rintro _ w126 ⟨rfl, ⟨z119, z120, z121, z122⟩, ⟨hz123, hz124⟩, hS125⟩
  simp only [List.cons_append, List.append_nil] at hS125
  refine ⟨_, _, hS125, fun w127 hS128 => ?_⟩
  subst hz123
  refine c_nil <| q_norm <| c_seq <| c_region <| wl_h hS128.toHeld (r_box ty26 (k := 0) (.there (.there .here)) rfl rfl rfl (v := .slice _ _ _) rfl) ?_
  refine wl_h hS128.toHeld (r_assign (v := .slice _ _ _) rfl) <| wl_nil <| c_ret <| ret_mark hS128 .here (fun w130 hS129 => ?_)
  refine ret_tmp (t := 4) rfl (v := .slice _ _ _) rfl ?_
  obtain rfl := some_eq hM
  have hS131 := hS129.weaken (.cons_cons _ (.cons _ (.refl _)))
  exact ⟨z119, r90.length, z121, z122, rfl, row_n (hS131.toHeld.own .here) hz124 (by decide), hz124, hS131⟩

theorem cg112 {m : Mem} {L : List Atom} {w : World} {b1 : Nat} {a3 : Option Addr} {n4 c5 : Nat} {y7 : (List Int)} (hS : St w m L) (hr6 : RSl 1 RInt m a3 n4 c5 y7) (hb2 : K.Own L (.box b1 26 [.slice a3 n4 c5])) {fuel : Nat} {r : (List Int)} (hM : mg112 fuel y7 = some r) : Calls P0 112 [.func (.func 114) #[] #[.pointer (some ⟨b1, 0, none⟩)]].toArray w (Ret fun v w' => ∃ (a0 : Option Addr) (n0 : Nat) (c0 : Nat) (cs0 : List Value), v = .slice a0 n0 c0 ∧ n0 = r.length ∧ RCs 1 RInt m cs0 r ∧ St w' m (.row (.slice a0 n0 c0) 3 1 cs0 :: L)) := by
 rw [mg112] at hM
 obtain rfl := hr6.1
 refine enter Tryz.func112 rfl Tryz.ntmps112 (Nat.le_of_ble_eq_true rfl) ?_
 refine c_seq <| c_region <| wl_h hS.toHeld (r_assign (v := .slice _ _ _) rfl) <| wl_nil <| c_seq <| c_region <| wl_h hS.toHeld (r_move (v := .func (.func 114) #[] #[.pointer (some ⟨_, _, none⟩)]) rfl) ?_
 obtain ⟨r8, hq9, hM⟩ := bnd_ok hM
 refine wl_call ent131 (vals := [.slice _ _ _, .func (.func 114) #[] #[.pointer (some ⟨_, _, none⟩)]]) rfl (cg131 hS hr6 hb2 hq9) ?_
 rintro _ w17 ⟨a11, n12, c13, cs14, rfl, rfl, hrc15, hS18⟩
 refine wl_h hS18.toHeld (r_assign (v := .slice _ _ _) rfl) <| wl_nil <| c_ret <| ret_tmp (t := 2) rfl (v := .slice _ _ _) rfl ?_
 obtain rfl := some_eq hM
 exact ⟨a11, r8.length, c13, cs14, rfl, row_n (hS18.toHeld.own .here) hrc15 (by decide), hrc15, hS18⟩

theorem cg73 {m : Mem} {L : List Atom} {w : World} {b1 : Nat} {a3 : Option Addr} {n4 c5 : Nat} {y7 : (List Int)} (hS : St w m L) (hr6 : RSl 1 RInt m a3 n4 c5 y7) (hb2 : K.Own L (.box b1 26 [.slice a3 n4 c5])) {fuel : Nat} {r : (List Int)} (hM : mg73 fuel y7 = some r) : Calls P0 73 [.func (.func 114) #[] #[.pointer (some ⟨b1, 0, none⟩)]].toArray w (Ret fun v w' => ∃ (a0 : Option Addr) (n0 : Nat) (c0 : Nat) (cs0 : List Value), v = .slice a0 n0 c0 ∧ n0 = r.length ∧ RCs 1 RInt m cs0 r ∧ St w' m (.row (.slice a0 n0 c0) 3 1 cs0 :: L)) := by
 rw [mg73] at hM
 obtain rfl := hr6.1
 refine enter Tryz.func73 rfl Tryz.ntmps73 (Nat.le_of_ble_eq_true rfl) ?_
 refine c_seq <| c_region <| wl_h hS.toHeld (r_assign (v := .slice _ _ _) rfl) <| wl_nil <| c_seq <| c_region <| wl_h hS.toHeld (r_move (v := .func (.func 114) #[] #[.pointer (some ⟨_, _, none⟩)]) rfl) ?_
 obtain ⟨r8, hq9, hM⟩ := bnd_ok hM
 refine wl_call ent112 (vals := [.func (.func 114) #[] #[.pointer (some ⟨_, _, none⟩)]]) rfl (cg112 hS hr6 hb2 hq9) ?_
 rintro _ w17 ⟨a11, n12, c13, cs14, rfl, rfl, hrc15, hS18⟩
 refine wl_h hS18.toHeld (r_assign (v := .slice _ _ _) rfl) <| wl_nil <| c_seq <| c_region <| wl_h hS18.toHeld (r_move (v := .slice _ _ _) rfl) ?_
 obtain ⟨r19, hq20, hM⟩ := bnd_ok hM
 refine wl_call ent113 (vals := [.slice _ _ _]) rfl (cg113 hS18 hrc15 hq20) ?_
 rintro _ w25 ⟨cs22, rfl, hl24, hrc23, hS26⟩
 refine wl_nil <| c_seq <| c_region <| wl_h hS26.toHeld (r_move (v := .slice _ _ _) rfl) <| wl_h hS26.toHeld (r_assign (v := .slice _ _ _) rfl) ?_
 refine wl_nil <| c_ret <| ret_tmp (t := 2) rfl (v := .slice _ _ _) rfl ?_
 obtain rfl := some_eq hM
 exact ⟨a11, r8.length, c13, cs22, rfl, row_n (hS26.toHeld.own .here) hrc23 (by decide), hrc23, hS26⟩

theorem cg65 {m : Mem} {L : List Atom} {w : World} {cs1 : List Value} {f3 : Fleet} {a13 : Option Addr} {n14 c15 : Nat} {stops17 : List Int} (hS : St w m L) (hx2 : RFleet m cs1 f3) (hr16 : RSl 1 RInt m a13 n14 c15 stops17) {fuel : Nat} {r : Int} (hM : mg65 fuel f3 stops17 = some r) : Calls P0 65 [.agg cs1.toArray, .slice a13 n14 c15].toArray w (Ret fun v w' => v = .int .i64 r ∧ St w' m (L)) := by
 rw [mg65] at hM
 have hk12 := hx2
 obtain ⟨a4, n5, c6, a8, n9, c10, rfl, hr7, hr11⟩ := hx2
 obtain rfl := hr7.1
 obtain rfl := hr11.1
 obtain rfl := hr16.1
 refine enter Tryz.func65 rfl Tryz.ntmps65 (Nat.le_of_ble_eq_true rfl) ?_
 refine c_seq <| c_region <| wl_box hS (v := .agg #[.slice _ _ _, .slice _ _ _, .int .i64 _, .int .i64 _, .int .i64 _]) rfl (cs := [.slice _ _ _, .slice _ _ _, .int .i64 _, .int .i64 _, .int .i64 _]) rfl ?_
 intro b18 w19 hS20
 refine wl_h hS20.toHeld (r_assign (v := .int .i64 _) rfl) <| wl_nil <| c_seq <| c_seq <| c_region <| wl_h hS20.toHeld (r_box ty25 (k := 0) .here rfl rfl rfl (v := .agg #[.slice _ _ _, .slice _ _ _, .int .i64 _, .int .i64 _, .int .i64 _]) rfl) ?_
 obtain ⟨r21, hq22, hM⟩ := bnd_ok hM
 refine wl_call ent18 (vals := [.agg #[.slice _ _ _, .slice _ _ _, .int .i64 _, .int .i64 _, .int .i64 _]]) rfl (cg18 hS20 hk12 hq22) ?_
 rintro _ w24 ⟨rfl, hS25⟩
 refine wl_h hS25.toHeld (r_assign (v := .int .i64 _) rfl) <| wl_nil <| c_seq <| c_region <| wl_h hS25.toHeld (r_move (v := .int .i64 _) rfl) ?_
 refine wl_h hS25.toHeld (r_neq (a := _) (b := _) rfl rfl) <| wl_nil <| c_cond (c := _) rfl (fun h26 => ?_) (fun h26 => ?_)
 ·replace hM := bif_t h26 hM
  refine c_seq <| c_region <| wl_h hS25.toHeld (r_move (v := .int .i64 _) rfl) <| wl_h hS25.toHeld (r_assign (v := .int .i64 _) rfl) <| wl_nil <| c_ret <| ret_tmp (t := 4) rfl (v := .int .i64 _) rfl ?_
  obtain rfl := some_eq hM
  have hS27 := hS25.weaken (.cons _ (.refl _))
  exact ⟨rfl, hS27⟩
 ·replace hM := bif_f h26 hM
  refine c_skip <| c_seq <| c_region <| wl_h hS25.toHeld (r_move (v := .slice _ _ _) rfl) <| wl_call ent74 (vals := [.slice _ _ _]) rfl (cg74 hS25 hr16) ?_
  rintro _ w29 ⟨b28, rfl, hS30⟩
  obtain ⟨r31, hq32, hM⟩ := bnd_ok hM
  refine wl_call ent73 (vals := [.func (.func 114) #[] #[.pointer (some ⟨_, _, none⟩)]]) rfl (cg73 hS30 hr16 .here hq32) ?_
  rintro _ w40 ⟨a34, n35, c36, cs37, rfl, rfl, hrc38, hS41⟩
  refine wl_h hS41.toHeld (r_assign (v := .slice _ _ _) rfl) <| wl_nil <| c_seq <| c_seq ?_
  have hH108 := (hS41.weaken (.cons _ (.cons_cons _ (.cons_cons _ (.refl _))))).toHeld
  refine c_draw (k := 29) (fun w => Held w m (.box b28 26 [.slice a13 stops17.length c15] :: .box b18 25 [.slice a4 f3.stops.length c6, .slice a8 f3.minutes.length c10, .int .i64 f3.cap, .int .i64 f3.start, .int .i64 f3.back] :: L)) mixed rfl ?_
  replace hH108 := hH108.drew1
  have hS109 := hS41.drew1
  refine d_v (i := 0) rfl (by kernel_rfl) rfl (r_move (v := .slice _ _ _) rfl) hH108 ?_
  refine d_v (i := 1) rfl (by kernel_rfl) rfl (r_len Tryz.underlying26 (a := _) (n := _) (c := _) rfl) hH108 ?_
  refine d_v (i := 2) rfl (by kernel_rfl) rfl (r_eql (a := _) (b := _) rfl rfl) hH108 ?_
  refine d_v (i := 3) rfl (by kernel_rfl) rfl (r_move (v := .bool _) rfl) hH108 ?_
  refine d_split (t := 18) (c := _) rfl (fun h110 => ?_) (fun h110 => ?_)
  ·replace hM := bif_t h110 hM
   refine d_off (i := 4) rfl (by kernel_rfl) rfl (t := 18) (b := true) rfl rfl rfl hH108 ?_
   refine d_off (i := 5) rfl (by kernel_rfl) rfl (t := 18) (b := true) rfl rfl rfl hH108 ?_
   refine d_off (i := 6) rfl (by kernel_rfl) rfl (t := 18) (b := true) rfl rfl rfl hH108 ?_
   refine d_off (i := 7) rfl (by kernel_rfl) rfl (t := 18) (b := true) rfl rfl rfl hH108 ?_
   refine d_v (i := 8) rfl (by kernel_rfl) rfl (r_pick_t rfl (v := .bool _) rfl) hH108 ?_
   refine d_v (i := 9) rfl (by kernel_rfl) rfl (r_move (v := .bool _) rfl) hH108 ?_
   refine d_off (i := 10) rfl (by kernel_rfl) rfl (t := 24) (b := true) rfl rfl rfl hH108 ?_
   refine d_off (i := 11) rfl (by kernel_rfl) rfl (t := 24) (b := true) rfl rfl rfl hH108 ?_
   refine d_off (i := 12) rfl (by kernel_rfl) rfl (t := 24) (b := true) rfl rfl rfl hH108 ?_
   refine d_off (i := 13) rfl (by kernel_rfl) rfl (t := 24) (b := true) rfl rfl rfl hH108 ?_
   refine d_off (i := 14) rfl (by kernel_rfl) rfl (t := 24) (b := true) rfl rfl rfl hH108 ?_
   refine d_off (i := 15) rfl (by kernel_rfl) rfl (t := 24) (b := true) rfl rfl rfl hH108 ?_
   refine d_off (i := 16) rfl (by kernel_rfl) rfl (t := 24) (b := true) rfl rfl rfl hH108 ?_
   refine d_off (i := 17) rfl (by kernel_rfl) rfl (t := 24) (b := true) rfl rfl rfl hH108 ?_
   refine d_off (i := 18) rfl (by kernel_rfl) rfl (t := 24) (b := true) rfl rfl rfl hH108 ?_
   refine d_off (i := 19) rfl (by kernel_rfl) rfl (t := 24) (b := true) rfl rfl rfl hH108 ?_
   refine d_v (i := 20) rfl (by kernel_rfl) rfl (r_pick_t rfl (v := .bool _) rfl) hH108 ?_
   refine d_v (i := 21) rfl (by kernel_rfl) rfl (r_move (v := .bool _) rfl) hH108 ?_
   refine d_off (i := 22) rfl (by kernel_rfl) rfl (t := 36) (b := true) rfl rfl rfl hH108 ?_
   refine d_off (i := 23) rfl (by kernel_rfl) rfl (t := 36) (b := true) rfl rfl rfl hH108 ?_
   refine d_off (i := 24) rfl (by kernel_rfl) rfl (t := 36) (b := true) rfl rfl rfl hH108 ?_
   refine d_off (i := 25) rfl (by kernel_rfl) rfl (t := 36) (b := true) rfl rfl rfl hH108 ?_
   refine d_off (i := 26) rfl (by kernel_rfl) rfl (t := 36) (b := true) rfl rfl rfl hH108 ?_
   refine d_off (i := 27) rfl (by kernel_rfl) rfl (t := 36) (b := true) rfl rfl rfl hH108 ?_
   refine d_v (i := 28) rfl (by kernel_rfl) rfl (r_pick_t rfl (v := .bool _) rfl) hH108 ?_
   refine d_end (by kernel_rfl) ?_
   refine c_true rfl <| c_seq <| c_region <| wl_h hS109.toHeld (r_assign (v := .int .i64 _) rfl) <| wl_nil <| c_ret <| ret_tmp (t := 4) rfl (v := .int .i64 _) rfl ?_
   obtain rfl := some_eq hM
   have hS111 := hS109.weaken (.cons _ (.cons _ (.cons _ (.refl _))))
   exact ⟨rfl, hS111⟩
  ·replace hM := bif_f h110 hM
   refine d_on (i := 4) rfl (by kernel_rfl) rfl (t := 18) rfl rfl (r_move (v := .slice _ _ _) rfl) hH108 ?_
   obtain ⟨x112, hx113, h114, h115, hM⟩ := getK_ok hM
   obtain ⟨b116, rfl⟩ := row_some (hS109.toHeld.own .here) hrc38 (by decide) h114 h115
   obtain ⟨es117, hes118, hR119⟩ := row_read hrc38 hx113
   obtain rfl := hR119
   refine d_on (i := 5) rfl (by kernel_rfl) rfl (t := 18) rfl rfl (r_indexAddr Tryz.underlying26 ty3 (b := _) (o := _) (n := _) (c := _) (i := 0) rfl rfl h114 (row_lt (hS109.toHeld.own .here) hrc38 (by decide) h115)) hH108 ?_
   refine d_all (rs := [6]) (by kernel_rfl) (by simp) (fun j hj o ho => ?_)
   obtain rfl : j = 6 := by simpa using hj
   cases ho
   refine wl_on (t := 18) rfl rfl ?_
   refine wl_h hS109.toHeld (r_row ty3 (k := 0) (i := (0 : Int).toNat) .here rfl rfl (row_room hrc38 hx113) hes118 rfl (v := .int .i64 _) rfl) <| wl_nil ?_
   have hH120 := hS109.toHeld.mono (Mem.le_refl _) (List.Sublist.subset (.cons _ (.cons_cons _ (.cons_cons _ (.refl _)))))
   refine ⟨hH120, ?_⟩
   refine d_on (i := 7) rfl (by kernel_rfl) rfl (t := 18) rfl rfl (r_lss (a := _) (b := _) rfl rfl) hH120 ?_
   refine d_v (i := 8) rfl (by kernel_rfl) rfl (r_pick_f rfl (v := .bool _) rfl) hH120 ?_
   refine d_v (i := 9) rfl (by kernel_rfl) rfl (r_move (v := .bool _) rfl) hH120 ?_
   refine d_split (t := 24) (c := _) rfl (fun h121 => ?_) (fun h121 => ?_)
   ·replace hM := bif_t h121 hM
    refine d_off (i := 10) rfl (by kernel_rfl) rfl (t := 24) (b := true) rfl rfl rfl hH120 ?_
    refine d_off (i := 11) rfl (by kernel_rfl) rfl (t := 24) (b := true) rfl rfl rfl hH120 ?_
    refine d_off (i := 12) rfl (by kernel_rfl) rfl (t := 24) (b := true) rfl rfl rfl hH120 ?_
    refine d_off (i := 13) rfl (by kernel_rfl) rfl (t := 24) (b := true) rfl rfl rfl hH120 ?_
    refine d_off (i := 14) rfl (by kernel_rfl) rfl (t := 24) (b := true) rfl rfl rfl hH120 ?_
    refine d_off (i := 15) rfl (by kernel_rfl) rfl (t := 24) (b := true) rfl rfl rfl hH120 ?_
    refine d_off (i := 16) rfl (by kernel_rfl) rfl (t := 24) (b := true) rfl rfl rfl hH120 ?_
    refine d_off (i := 17) rfl (by kernel_rfl) rfl (t := 24) (b := true) rfl rfl rfl hH120 ?_
    refine d_off (i := 18) rfl (by kernel_rfl) rfl (t := 24) (b := true) rfl rfl rfl hH120 ?_
    refine d_off (i := 19) rfl (by kernel_rfl) rfl (t := 24) (b := true) rfl rfl rfl hH120 ?_
    refine d_v (i := 20) rfl (by kernel_rfl) rfl (r_pick_t rfl (v := .bool _) rfl) hH120 ?_
    refine d_v (i := 21) rfl (by kernel_rfl) rfl (r_move (v := .bool _) rfl) hH120 ?_
    refine d_off (i := 22) rfl (by kernel_rfl) rfl (t := 36) (b := true) rfl rfl rfl hH120 ?_
    refine d_off (i := 23) rfl (by kernel_rfl) rfl (t := 36) (b := true) rfl rfl rfl hH120 ?_
    refine d_off (i := 24) rfl (by kernel_rfl) rfl (t := 36) (b := true) rfl rfl rfl hH120 ?_
    refine d_off (i := 25) rfl (by kernel_rfl) rfl (t := 36) (b := true) rfl rfl rfl hH120 ?_
    refine d_off (i := 26) rfl (by kernel_rfl) rfl (t := 36) (b := true) rfl rfl rfl hH120 ?_
    refine d_off (i := 27) rfl (by kernel_rfl) rfl (t := 36) (b := true) rfl rfl rfl hH120 ?_
    refine d_v (i := 28) rfl (by kernel_rfl) rfl (r_pick_t rfl (v := .bool _) rfl) hH120 ?_
    refine d_end (by kernel_rfl) ?_
    refine c_true rfl <| c_seq <| c_region <| wl_h hS109.toHeld (r_assign (v := .int .i64 _) rfl) <| wl_nil <| c_ret <| ret_tmp (t := 4) rfl (v := .int .i64 _) rfl ?_
    obtain rfl := some_eq hM
    have hS122 := hS109.weaken (.cons _ (.cons _ (.cons _ (.refl _))))
    exact ⟨rfl, hS122⟩
   ·replace hM := bif_f h121 hM
    refine d_on (i := 10) rfl (by kernel_rfl) rfl (t := 24) rfl rfl (r_move (v := .slice _ _ _) rfl) hH120 ?_
    refine d_on (i := 11) rfl (by kernel_rfl) rfl (t := 24) rfl rfl (r_move (v := .slice _ _ _) rfl) hH120 ?_
    refine d_on (i := 12) rfl (by kernel_rfl) rfl (t := 24) rfl rfl (r_len Tryz.underlying26 (a := _) (n := _) (c := _) rfl) hH120 ?_
    obtain ⟨hc123, hM⟩ := chk_ok hM
    refine d_on (i := 13) rfl (by kernel_rfl) rfl (t := 24) rfl rfl (r_sub (a := _) (b := _) rfl rfl (ok_lo hc123) (ok_hi hc123)) hH120 ?_
    obtain ⟨x124, hx125, h126, h127, hM⟩ := getK_ok hM
    obtain ⟨es128, hes129, hR130⟩ := row_read hrc38 hx125
    obtain rfl := hR130
    refine d_on (i := 14) rfl (by kernel_rfl) rfl (t := 24) rfl rfl (r_indexAddr Tryz.underlying26 ty3 (b := _) (o := _) (n := _) (c := _) (i := ((r31.length : Nat) : Int) - 1) rfl rfl h126 (row_lt (hS109.toHeld.own .here) hrc38 (by decide) h127)) hH120 ?_
    refine d_on (i := 16) rfl (by kernel_rfl) rfl (t := 24) rfl rfl (r_fieldAddr fld25_0 (b := _) (o := _) rfl) hH120 ?_
    refine d_on (i := 17) rfl (by kernel_rfl) rfl (t := 24) rfl rfl (r_box ty22 (k := 0) (.there .here) rfl rfl rfl (v := .slice _ _ _) rfl) hH120 ?_
    refine d_on (i := 18) rfl (by kernel_rfl) rfl (t := 24) rfl rfl (r_len Tryz.underlying22 (a := _) (n := _) (c := _) rfl) hH120 ?_
    refine d_all (rs := [15]) (by kernel_rfl) (by simp) (fun j hj o ho => ?_)
    obtain rfl : j = 15 := by simpa using hj
    cases ho
    refine wl_on (t := 24) rfl rfl ?_
    refine wl_h hS109.toHeld (r_row ty3 (k := 0) (i := (((r31.length : Nat) : Int) - 1).toNat) .here rfl rfl (row_room hrc38 hx125) hes129 rfl (v := .int .i64 _) rfl) <| wl_nil ?_
    have hH131 := hS109.toHeld.mono (Mem.le_refl _) (List.Sublist.subset (.cons _ (.cons_cons _ (.cons_cons _ (.refl _)))))
    refine ⟨hH131, ?_⟩
    refine d_on (i := 19) rfl (by kernel_rfl) rfl (t := 24) rfl rfl (r_geq (a := _) (b := _) rfl rfl) hH131 ?_
    refine d_v (i := 20) rfl (by kernel_rfl) rfl (r_pick_f rfl (v := .bool _) rfl) hH131 ?_
    refine d_v (i := 21) rfl (by kernel_rfl) rfl (r_move (v := .bool _) rfl) hH131 ?_
    refine d_split (t := 36) (c := _) rfl (fun h132 => ?_) (fun h132 => ?_)
    ·replace hM := bif_t h132 hM
     refine d_off (i := 22) rfl (by kernel_rfl) rfl (t := 36) (b := true) rfl rfl rfl hH131 ?_
     refine d_off (i := 23) rfl (by kernel_rfl) rfl (t := 36) (b := true) rfl rfl rfl hH131 ?_
     refine d_off (i := 24) rfl (by kernel_rfl) rfl (t := 36) (b := true) rfl rfl rfl hH131 ?_
     refine d_off (i := 25) rfl (by kernel_rfl) rfl (t := 36) (b := true) rfl rfl rfl hH131 ?_
     refine d_off (i := 26) rfl (by kernel_rfl) rfl (t := 36) (b := true) rfl rfl rfl hH131 ?_
     refine d_off (i := 27) rfl (by kernel_rfl) rfl (t := 36) (b := true) rfl rfl rfl hH131 ?_
     refine d_v (i := 28) rfl (by kernel_rfl) rfl (r_pick_t rfl (v := .bool _) rfl) hH131 ?_
     refine d_end (by kernel_rfl) ?_
     refine c_true rfl <| c_seq <| c_region <| wl_h hS109.toHeld (r_assign (v := .int .i64 _) rfl) <| wl_nil <| c_ret <| ret_tmp (t := 4) rfl (v := .int .i64 _) rfl ?_
     obtain rfl := some_eq hM
     have hS133 := hS109.weaken (.cons _ (.cons _ (.cons _ (.refl _))))
     exact ⟨rfl, hS133⟩
    ·replace hM := bif_f h132 hM
     refine d_on (i := 22) rfl (by kernel_rfl) rfl (t := 36) rfl rfl (r_move (v := .slice _ _ _) rfl) hH131 ?_
     refine d_on (i := 25) rfl (by kernel_rfl) rfl (t := 36) rfl rfl (r_move (v := .slice _ _ _) rfl) hH131 ?_
     refine d_on (i := 26) rfl (by kernel_rfl) rfl (t := 36) rfl rfl (r_len Tryz.underlying26 (a := _) (n := _) (c := _) rfl) hH131 ?_
     refine d_all (rs := [23]) (by kernel_rfl) (by simp) (fun j hj o ho => ?_)
     obtain rfl : j = 23 := by simpa using hj
     cases ho
     refine wl_on (t := 36) rfl rfl ?_
     obtain ⟨r134, hq135, hM⟩ := bnd_ok hM
     refine wl_call ent106 (vals := [.slice _ _ _]) rfl (cg106 hS109 hrc38 hq135) ?_
     rintro _ w141 ⟨a136, n137, c138, cs139, rfl, rfl, hrc140, hS143⟩
     refine wl_nil ?_
     have hH144 := hS143.toHeld.mono (Mem.le_refl _) (List.Sublist.subset (.cons _ (.cons_cons _ (.cons_cons _ (.refl _)))))
     refine ⟨hH144, ?_⟩
     refine d_on (i := 24) rfl (by kernel_rfl) rfl (t := 36) rfl rfl (r_len Tryz.underlying26 (a := _) (n := _) (c := _) rfl) hH144 ?_
     refine d_on (i := 27) rfl (by kernel_rfl) rfl (t := 36) rfl rfl (r_lss (a := _) (b := _) rfl rfl) hH144 ?_
     refine d_v (i := 28) rfl (by kernel_rfl) rfl (r_pick_f rfl (v := .bool _) rfl) hH144 ?_
     refine d_end (by kernel_rfl) ?_
     refine c_cond (c := _) rfl (fun h145 => ?_) (fun h145 => ?_)
     ·replace hM := bif_t h145 hM
      refine c_seq <| c_region <| wl_h hS143.toHeld (r_assign (v := .int .i64 _) rfl) <| wl_nil <| c_ret <| ret_tmp (t := 4) rfl (v := .int .i64 _) rfl ?_
      obtain rfl := some_eq hM
      have hS146 := hS143.weaken (.cons _ (.cons _ (.cons _ (.refl _))))
      exact ⟨rfl, hS146⟩
     ·replace hM := bif_f h145 hM
      refine c_skip <| c_seq <| c_seq ?_
      have hH155 := (hS143.weaken (.cons_cons _ (.cons_cons _ (.cons_cons _ (.refl _))))).toHeld
      refine c_draw (k := 6) (fun w => Held w m (.row (.slice a136 r134.length c138) 3 1 cs139 :: .box b28 26 [.slice a13 stops17.length c15] :: .box b18 25 [.slice a4 f3.stops.length c6, .slice a8 f3.minutes.length c10, .int .i64 f3.cap, .int .i64 f3.start, .int .i64 f3.back] :: L)) mixed rfl ?_
      replace hH155 := hH155.drew1
      have hS156 := hS143.drew1
      refine d_v (i := 0) rfl (by kernel_rfl) rfl (r_box ty25 (k := 0) (.there (.there .here)) rfl rfl rfl (v := .agg #[.slice _ _ _, .slice _ _ _, .int .i64 _, .int .i64 _, .int .i64 _]) rfl) hH155 ?_
      refine d_v (i := 1) rfl (by kernel_rfl) rfl (r_move (v := .slice _ _ _) rfl) hH155 ?_
      refine d_v (i := 3) rfl (by kernel_rfl) rfl (r_fieldAddr fld25_2 (b := _) (o := _) rfl) hH155 ?_
      refine d_v (i := 4) rfl (by kernel_rfl) rfl (r_box ty3 (k := 2) (.there (.there .here)) rfl rfl rfl (v := .int .i64 _) rfl) hH155 ?_
      refine d_all (rs := [2]) (by kernel_rfl) (by simp) (fun j hj o ho => ?_)
      obtain rfl : j = 2 := by simpa using hj
      cases ho
      obtain ⟨r157, hq158, hM⟩ := bnd_ok hM
      refine wl_call ent107 (vals := [.agg #[.slice _ _ _, .slice _ _ _, .int .i64 _, .int .i64 _, .int .i64 _], .slice _ _ _]) rfl (cg107 hS156 hk12 hr16 hq158) ?_
      rintro _ w160 ⟨rfl, hS161⟩
      refine wl_nil ?_
      have hH162 := hS161.toHeld.mono (Mem.le_refl _) (List.Sublist.subset (.cons_cons _ (.cons_cons _ (.cons_cons _ (.refl _)))))
      refine ⟨hH162, ?_⟩
      refine d_v (i := 5) rfl (by kernel_rfl) rfl (r_gtr (a := _) (b := _) rfl rfl) hH162 ?_
      refine d_end (by kernel_rfl) ?_
      refine c_cond (c := _) rfl (fun h163 => ?_) (fun h163 => ?_)
      ·replace hM := bif_t h163 hM
       refine c_seq <| c_region <| wl_h hS161.toHeld (r_assign (v := .int .i64 _) rfl) <| wl_nil <| c_ret <| ret_tmp (t := 4) rfl (v := .int .i64 _) rfl ?_
       obtain rfl := some_eq hM
       have hS164 := hS161.weaken (.cons _ (.cons _ (.cons _ (.refl _))))
       exact ⟨rfl, hS164⟩
      ·replace hM := bif_f h163 hM
       refine c_skip <| c_seq <| c_region <| wl_h hS161.toHeld (r_assign (v := .int .i64 _) rfl) <| wl_nil <| c_ret <| ret_tmp (t := 4) rfl (v := .int .i64 _) rfl ?_
       obtain rfl := some_eq hM
       have hS165 := hS161.weaken (.cons _ (.cons _ (.cons _ (.refl _))))
       exact ⟨rfl, hS165⟩

theorem cg108 {m : Mem} {L : List Atom} {w : World} {cs1 : List Value} {f3 : Fleet} {from13 : Int} {at14 : Int} {stop15 : Int} (hS : St w m L) (hx2 : RFleet m cs1 f3) {fuel : Nat} {r : Int × Int × Bool} (hM : mg108 fuel f3 from13 at14 stop15 = some r) : Calls P0 108 [.agg cs1.toArray, .int .i64 from13, .int .i64 at14, .int .i64 stop15].toArray w (Ret fun v w' => v = .tuple #[.int .i64 r.1, .int .i64 r.2.1, .bool r.2.2] ∧ St w' m (L)) := by
 rw [mg108] at hM
 have hk12 := hx2
 obtain ⟨a4, n5, c6, a8, n9, c10, rfl, hr7, hr11⟩ := hx2
 obtain rfl := hr7.1
 obtain rfl := hr11.1
 refine enter Tryz.func108 rfl Tryz.ntmps108 (Nat.le_of_ble_eq_true rfl) ?_
 refine c_seq <| c_region <| wl_box hS (v := .agg #[.slice _ _ _, .slice _ _ _, .int .i64 _, .int .i64 _, .int .i64 _]) rfl (cs := [.slice _ _ _, .slice _ _ _, .int .i64 _, .int .i64 _, .int .i64 _]) rfl ?_
 intro b16 w17 hS18
 refine wl_h hS18.toHeld (r_assign (v := .int .i64 _) rfl) <| wl_h hS18.toHeld (r_assign (v := .int .i64 _) rfl) <| wl_h hS18.toHeld (r_assign (v := .bool _) rfl) <| wl_nil <| c_seq <| c_region <| wl_h hS18.toHeld (r_fieldAddr fld25_0 (b := _) (o := _) rfl) ?_
 refine wl_h hS18.toHeld (r_box ty22 (k := 0) .here rfl rfl rfl (v := .slice _ _ _) rfl) <| wl_h hS18.toHeld (r_move (v := .int .i64 _) rfl) ?_
 obtain ⟨x19, hx20, h21, h22, hM⟩ := getK_ok hM
 obtain ⟨b23, o24, rfl⟩ := RSl.elem_a hr7 hx20
 obtain ⟨cs25, hI26, hR27⟩ := RSl.elem_at hr7 hx20
 obtain rfl := hR27
 refine wl_h hS18.toHeld (r_indexAddr Tryz.underlying22 ty34 (b := _) (o := _) (n := _) (c := _) (i := stop15) rfl rfl h21 (RSl.lt hr7 h22)) <| wl_h hS18.toHeld (r_imm ty34 (k := 0) hI26 rfl rfl rfl (v := .agg #[.int .i64 _, .int .i64 _, .int .i64 _, .int .i64 _, .int .i64 _]) rfl) <| wl_alloc ty34 rfl hS18 ?_
 intro b28 w29 hS30
 refine wl_store_box ty34 hS30 rfl (v := .agg #[.int .i64 _, .int .i64 _, .int .i64 _, .int .i64 _, .int .i64 _]) rfl (vs := [.int .i64 _, .int .i64 _, .int .i64 _, .int .i64 _, .int .i64 _]) rfl rfl rfl .here (cs' := [.int .i64 _, .int .i64 _, .int .i64 _, .int .i64 _, .int .i64 _]) rfl rfl ?_
 intro w31 hS32
 refine wl_nil <| c_seq <| c_region <| wl_h hS32.toHeld (r_move (v := .int .i64 _) rfl) <| wl_h hS32.toHeld (r_fieldAddr fld25_1 (b := _) (o := _) rfl) ?_
 refine wl_h hS32.toHeld (r_box ty23 (k := 1) (.there .here) rfl rfl rfl (v := .slice _ _ _) rfl) <| wl_h hS32.toHeld (r_move (v := .int .i64 _) rfl) ?_
 obtain ⟨x33, hx34, h35, h36, hM⟩ := getK_ok hM
 obtain ⟨b37, o38, rfl⟩ := RSl.elem_a hr11 hx34
 obtain ⟨cs39, hI40, hR41⟩ := RSl.elem_at hr11 hx34
 obtain ⟨a42, n43, c44, rfl, hr45⟩ := hR41
 obtain rfl := hr45.1
 refine wl_h hS32.toHeld (r_indexAddr Tryz.underlying23 ty26 (b := _) (o := _) (n := _) (c := _) (i := from13) rfl rfl h35 (RSl.lt hr11 h36)) <| wl_h hS32.toHeld (r_imm ty26 (k := 0) hI40 rfl rfl rfl (v := .slice _ _ _) rfl) <| wl_h hS32.toHeld (r_move (v := .int .i64 _) rfl) ?_
 obtain ⟨hc46, hM⟩ := chk_ok hM
 refine wl_h hS32.toHeld (r_add (a := _) (b := _) rfl rfl (ok_lo hc46) (ok_hi hc46)) ?_
 obtain ⟨x47, hx48, h49, h50, hM⟩ := getK_ok hM
 obtain ⟨b51, o52, rfl⟩ := RSl.elem_a hr45 hx48
 obtain ⟨cs53, hI54, hR55⟩ := RSl.elem_at hr45 hx48
 obtain rfl := hR55
 refine wl_h hS32.toHeld (r_indexAddr Tryz.underlying26 ty3 (b := _) (o := _) (n := _) (c := _) (i := stop15 + 1) rfl rfl h49 (RSl.lt hr45 h50)) <| wl_h hS32.toHeld (r_imm ty3 (k := 0) hI54 rfl rfl rfl (v := .int .i64 _) rfl) ?_
 obtain ⟨hc56, hM⟩ := chk_ok hM
 refine wl_h hS32.toHeld (r_add (a := _) (b := _) rfl rfl (ok_lo hc56) (ok_hi hc56)) <| wl_h hS32.toHeld (r_assign (v := .int .i64 _) rfl) <| wl_nil <| c_seq ?_
 have hH60 := (hS32.weaken (.cons_cons _ (.cons_cons _ (.refl _)))).toHeld
 refine c_draw (k := 15) (fun w => Held w m (.box b28 34 [.int .i64 x19.load, .int .i64 x19.ready, .int .i64 x19.opn, .int .i64 x19.close, .int .i64 x19.serve] :: .box b16 25 [.slice (some ⟨b23, o24, none⟩) f3.stops.length c6, .slice (some ⟨b37, o38, none⟩) f3.minutes.length c10, .int .i64 f3.cap, .int .i64 f3.start, .int .i64 f3.back] :: L)) mixed rfl ?_
 replace hH60 := hH60.drew1
 have hS61 := hS32.drew1
 refine d_v (i := 0) rfl (by kernel_rfl) rfl (r_move (v := .int .i64 _) rfl) hH60 ?_
 refine d_v (i := 1) rfl (by kernel_rfl) rfl (r_move (v := .int .i64 _) rfl) hH60 ?_
 refine d_v (i := 2) rfl (by kernel_rfl) rfl (r_fieldAddr fld34_2 (b := _) (o := _) rfl) hH60 ?_
 refine d_v (i := 3) rfl (by kernel_rfl) rfl (r_box ty3 (k := 2) .here rfl rfl rfl (v := .int .i64 _) rfl) hH60 ?_
 refine d_v (i := 4) rfl (by kernel_rfl) rfl (r_max (a := _) (b := _) rfl rfl) hH60 ?_
 refine d_v (i := 5) rfl (by kernel_rfl) rfl (r_fieldAddr fld34_4 (b := _) (o := _) rfl) hH60 ?_
 refine d_v (i := 6) rfl (by kernel_rfl) rfl (r_box ty3 (k := 4) .here rfl rfl rfl (v := .int .i64 _) rfl) hH60 ?_
 obtain ⟨hc62, hM⟩ := chk_ok hM
 refine d_v (i := 7) rfl (by kernel_rfl) rfl (r_add (a := _) (b := _) rfl rfl (ok_lo hc62) (ok_hi hc62)) hH60 ?_
 refine d_v (i := 8) rfl (by kernel_rfl) rfl (r_move (v := .int .i64 _) rfl) hH60 ?_
 refine d_v (i := 9) rfl (by kernel_rfl) rfl (r_fieldAddr fld34_3 (b := _) (o := _) rfl) hH60 ?_
 refine d_v (i := 10) rfl (by kernel_rfl) rfl (r_box ty3 (k := 3) .here rfl rfl rfl (v := .int .i64 _) rfl) hH60 ?_
 refine d_v (i := 11) rfl (by kernel_rfl) rfl (r_leq (a := _) (b := _) rfl rfl) hH60 ?_
 refine d_v (i := 12) rfl (by kernel_rfl) rfl (r_assign (v := .int .i64 _) rfl) hH60 ?_
 refine d_v (i := 13) rfl (by kernel_rfl) rfl (r_assign (v := .int .i64 _) rfl) hH60 ?_
 refine d_v (i := 14) rfl (by kernel_rfl) rfl (r_assign (v := .bool _) rfl) hH60 ?_
 refine d_end (by kernel_rfl) ?_
 refine c_ret <| ret_many rfl (.tmp (v := .int .i64 _) rfl (.tmp (v := .int .i64 _) rfl (.tmp (v := .bool _) rfl .nil))) ?_
 obtain rfl := some_eq hM
 have hS63 := hS61.weaken (.cons _ (.cons _ (.refl _)))
 exact ⟨rfl, hS63⟩

theorem cg66 {m : Mem} {L : List Atom} {w : World} {cs1 : List Value} {f3 : Fleet} {a13 : Option Addr} {n14 c15 : Nat} {stops17 : List Int} {leave18 : Int} (hS : St w m L) (hx2 : RFleet m cs1 f3) (hr16 : RSl 1 RInt m a13 n14 c15 stops17) {fuel : Nat} {r : Tour × (List Int) × Bool} (hM : mg66 fuel f3 stops17 leave18 = some r) : Calls P0 66 [.agg cs1.toArray, .slice a13 n14 c15, .int .i64 leave18].toArray w (Ret fun v w' => ∃ (a0 : Option Addr) (n0 : Nat) (c0 : Nat) (cs0 : List Value) (a1 : Option Addr) (n1 : Nat) (c1 : Nat) (cs1 : List Value), v = .tuple #[.agg #[.slice a0 n0 c0, .int .i64 r.1.leave, .int .i64 r.1.fin], .slice a1 n1 c1, .bool r.2.2] ∧ n0 = r.1.stops.length ∧ RCs 1 RInt m cs0 r.1.stops ∧ n1 = r.2.1.length ∧ RCs 1 RInt m cs1 r.2.1 ∧ St w' m (.row (.slice a0 n0 c0) 3 1 cs0 :: .row (.slice a1 n1 c1) 3 1 cs1 :: L)) := by
 rw [mg66] at hM
 have hk12 := hx2
 obtain ⟨a4, n5, c6, a8, n9, c10, rfl, hr7, hr11⟩ := hx2
 obtain rfl := hr7.1
 obtain rfl := hr11.1
 obtain rfl := hr16.1
 refine enter Tryz.func66 rfl Tryz.ntmps66 (Nat.le_of_ble_eq_true rfl) ?_
 refine c_seq <| c_region <| wl_box hS (v := .agg #[.slice _ _ _, .slice _ _ _, .int .i64 _, .int .i64 _, .int .i64 _]) rfl (cs := [.slice _ _ _, .slice _ _ _, .int .i64 _, .int .i64 _, .int .i64 _]) rfl ?_
 intro b19 w20 hS21
 refine wl_alloc ty61 rfl hS21 ?_
 intro b22 w23 hS24
 refine wl_h hS24.toHeld (r_assign (v := .slice _ _ _) rfl) <| wl_h hS24.toHeld (r_assign (v := .bool _) rfl) <| wl_nil <| c_seq <| c_region <| wl_h hS24.toHeld (r_move (v := .slice _ _ _) rfl) ?_
 obtain ⟨r25, hq26, hM⟩ := bnd_ok hM
 refine wl_call ent17 (vals := [.slice _ _ _]) rfl (cg17 hS24 hr16 hq26) ?_
 rintro _ w34 ⟨a28, n29, c30, cs31, rfl, rfl, hrc32, hS35⟩
 refine wl_h hS35.toHeld (r_move (v := .int .i64 _) rfl) <| wl_h hS35.toHeld (r_build ty61 st61 (ps := [(0, [.slice _ _ _]), (1, [.int .i64 _])]) rfl rfl (cs := [.slice _ _ _, .int .i64 _, .int .i64 _]) rfl) <| wl_alloc ty61 rfl hS35 ?_
 intro b36 w37 hS38
 refine wl_store_box ty61 hS38 rfl (v := .agg #[.slice _ _ _, .int .i64 _, .int .i64 _]) rfl (vs := [.slice _ _ _, .int .i64 _, .int .i64 _]) rfl rfl rfl .here (cs' := [.slice _ _ _, .int .i64 _, .int .i64 _]) rfl rfl ?_
 intro w39 hS40
 refine wl_nil <| c_seq <| c_region <| wl_h hS40.toHeld (r_assign (v := .slice _ _ _) rfl) <| wl_nil <| c_seq <| c_region <| wl_h hS40.toHeld (r_move (v := .int .i64 _) rfl) ?_
 refine wl_h hS40.toHeld (r_assign (v := .int .i64 _) rfl) <| wl_h hS40.toHeld (r_assign (v := .int .i64 _) rfl) <| wl_nil <| c_seq <| c_seq <| c_region <| wl_h hS40.toHeld (r_move (v := .slice _ _ _) rfl) ?_
 refine wl_h hS40.toHeld (r_len Tryz.underlying26 (a := _) (n := _) (c := _) rfl) <| wl_h hS40.toHeld (r_move (v := .int .i64 _) rfl) <| wl_nil <| c_block ?_
 have hS304 := hS40.nilRow 3 1
 have hrc305 : RCs 1 RInt m [] ([] : List Int) := RCs.nil
 refine c_loop (fun k f w => ∃ (from306 : Int) (at307 : Int) (x308 : Int) (l309 : List Int) (a310 : Option Addr) (n311 : Nat) (c312 : Nat) (cs313 : List Value), mg66_l0 fuel f3 stops17 leave18 r25 k from306 at307 x308 l309 = some r ∧ n311 = l309.length ∧ RCs 1 RInt m cs313 l309 ∧ St w m (.row (.slice a310 n311 c312) 3 1 cs313 :: .box b36 61 [.slice a28 r25.length c30, .int .i64 leave18, .int .i64 0] :: .row (.slice a28 r25.length c30) 3 1 cs31 :: .box b22 61 [.slice none 0 0, .int .i64 0, .int .i64 0] :: .box b19 25 [.slice a4 f3.stops.length c6, .slice a8 f3.minutes.length c10, .int .i64 f3.cap, .int .i64 f3.start, .int .i64 f3.back] :: L) ∧ f 3 = .pointer (some ⟨b19, 0, none⟩) ∧ f 6 = .pointer (some ⟨b22, 0, none⟩) ∧ f 9 = .pointer (some ⟨b36, 0, none⟩) ∧ f 10 = .slice a310 n311 c312 ∧ f 11 = .int .i64 from306 ∧ f 12 = .int .i64 at307 ∧ f 23 = .slice a13 stops17.length c15 ∧ f 24 = .int .i64 ((stops17.length : Nat) : Int) ∧ f 25 = .int .i64 x308) fuel ⟨0, leave18, 0, ([] : List Int), none, 0, 0, [], hM, row_n (hS304.toHeld.own .here) hrc305 (by decide), hrc305, hS304, rfl, rfl, rfl, rfl, rfl, rfl, rfl, rfl, rfl⟩ ?_
 rintro k_0 f316 w317 ⟨from306, at307, x308, l309, a310, n311, c312, cs313, hM, hn314, hrc315, hS319, e320, e321, e322, e323, e324, e325, e326, e327, e328⟩
 subst hn314
 refine c_know (t := 3) e320 <| c_know (t := 6) e321 <| c_know (t := 9) e322 <| c_know (t := 10) e323 <| c_know (t := 11) e324 ?_
 refine c_know (t := 12) e325 <| c_know (t := 23) e326 <| c_know (t := 24) e327 <| c_know (t := 25) e328 ?_
 clear e320 e321 e322 e323 e324 e325 e326 e327 e328
 rcases k_0 with _ | k_0
 · exact none_ne hM
 rw [mg66_l0] at hM
 refine c_seq <| c_region <| wl_h hS319.toHeld (r_lss (a := _) (b := _) rfl rfl) <| wl_nil <| c_seq <| c_cond (c := _) rfl (fun h329 => ?_) (fun h329 => ?_)
 ·replace hM := bif_t h329 hM
  refine c_skip <| c_seq <| c_block <| c_seq <| c_region ?_
  obtain ⟨x330, hx331, h332, h333, hM⟩ := getK_ok hM
  obtain ⟨b334, o335, rfl⟩ := RSl.elem_a hr16 hx331
  obtain ⟨cs336, hI337, hR338⟩ := RSl.elem_at hr16 hx331
  obtain rfl := hR338
  refine wl_h hS319.toHeld (r_indexAddr Tryz.underlying26 ty3 (b := _) (o := _) (n := _) (c := _) (i := x308) rfl rfl h332 (RSl.lt hr16 h333)) <| wl_h hS319.toHeld (r_imm ty3 (k := 0) hI337 rfl rfl rfl (v := .int .i64 _) rfl) <| wl_h hS319.toHeld (r_assign (v := .int .i64 _) rfl) <| wl_nil <| c_seq <| c_region <| wl_h hS319.toHeld (r_box ty25 (k := 0) (.there (.there (.there (.there .here)))) rfl rfl rfl (v := .agg #[.slice _ _ _, .slice _ _ _, .int .i64 _, .int .i64 _, .int .i64 _]) rfl) ?_
  refine wl_h hS319.toHeld (r_move (v := .int .i64 _) rfl) <| wl_h hS319.toHeld (r_move (v := .int .i64 _) rfl) <| wl_h hS319.toHeld (r_move (v := .int .i64 _) rfl) ?_
  obtain ⟨r339, hq340, hM⟩ := bnd_ok hM
  refine wl_call ent108 (vals := [.agg #[.slice _ _ _, .slice _ _ _, .int .i64 _, .int .i64 _, .int .i64 _], .int .i64 _, .int .i64 _, .int .i64 _]) rfl (cg108 hS319 hk12 hq340) ?_
  rintro _ w342 ⟨rfl, hS343⟩
  refine wl_h hS343.toHeld (r_move (v := .tuple #[.int .i64 _, .int .i64 _, .bool _]) rfl) <| wl_h hS343.toHeld (r_extract (vs := [.int .i64 _, .int .i64 _, .bool _]) rfl (v := .int .i64 _) rfl) <| wl_h hS343.toHeld (r_extract (vs := [.int .i64 _, .int .i64 _, .bool _]) rfl (v := .int .i64 _) rfl) <| wl_h hS343.toHeld (r_extract (vs := [.int .i64 _, .int .i64 _, .bool _]) rfl (v := .bool _) rfl) <| wl_h hS343.toHeld (r_assign (v := .int .i64 _) rfl) ?_
  refine wl_h hS343.toHeld (r_assign (v := .int .i64 _) rfl) <| wl_h hS343.toHeld (r_assign (v := .bool _) rfl) <| wl_nil <| c_seq <| c_seq <| c_region <| wl_h hS343.toHeld (r_move (v := .bool _) rfl) ?_
  refine wl_h hS343.toHeld (r_not (b := _) rfl) <| wl_nil <| c_cond (c := _) rfl (fun h344 => ?_) (fun h344 => ?_)
  ·replace hM := bif_t h344 hM
   refine c_seq <| c_region <| wl_h hS343.toHeld (r_build ty61 st61 (ps := []) rfl rfl (cs := [.slice _ _ _, .int .i64 _, .int .i64 _]) rfl) <| wl_store_box ty61 hS343 rfl (v := .agg #[.slice _ _ _, .int .i64 _, .int .i64 _]) rfl (vs := [.slice _ _ _, .int .i64 _, .int .i64 _]) rfl rfl rfl (.there (.there (.there .here))) (cs' := [.slice _ _ _, .int .i64 _, .int .i64 _]) rfl rfl ?_
   intro w345 hS346
   refine wl_h hS346.toHeld (r_assign (v := .slice _ _ _) rfl) <| wl_h hS346.toHeld (r_assign (v := .bool _) rfl) <| wl_nil <| c_ret <| q_retb ?_
   refine q_retl <| q_retb <| ret_many rfl (.cell (v := .agg #[.slice _ _ _, .int .i64 _, .int .i64 _]) rfl (ty61.run_loadVar (cs := [.slice _ _ _, .int .i64 _, .int .i64 _]) (box_at (hS346.toHeld.own (.there (.there (.there .here))))) rfl) (.tmp (v := .slice _ _ _) rfl (.tmp (v := .bool _) rfl .nil))) ?_
   have hS347 := hS346.nilRow 3 1
   have hrc349 : RCs 1 RInt m [] ([] : List Int) := RCs.nil
   have hS350 := hS347.nilRow 3 1
   have hrc352 : RCs 1 RInt m [] ([] : List Int) := RCs.nil
   obtain rfl := some_eq hM
   have hS353 := hS350.weaken (.cons_cons _ (.cons_cons _ (.cons _ (.cons _ (.cons _ (.cons _ (.cons _ (.refl _))))))))
   have hS354 := hS353.front (.there .here)
   exact ⟨none, 0, 0, [], none, 0, 0, [], rfl, row_n (hS354.toHeld.own .here) hrc349 (by decide), hrc349, row_n (hS354.toHeld.own (.there .here)) hrc352 (by decide), hrc352, hS354⟩
  ·replace hM := bif_f h344 hM
   refine c_skip <| c_seq <| c_region <| wl_h hS343.toHeld (r_move (v := .slice _ _ _) rfl) <| wl_h hS343.toHeld (r_move (v := .int .i64 _) rfl) ?_
   refine wl_buildSlice Tryz.underlying26 ty3 rfl (by decide) (by decide) hS343 (ps := [(0, [.int .i64 _])]) rfl rfl (cs := [.int .i64 _]) rfl rfl (by decide) ?_
   intro b356 w357 hS358
   have hrc359 : RCs 1 RInt m [.int .i64 r339.1] ([r339.1] : List Int) := (RCs.cons (d := [.int .i64 r339.1]) rfl rfl RCs.nil)
   obtain ⟨hc360, hM⟩ := chk_ok hM
   refine wl_append_src Tryz.underlying26 ty3 rfl (by decide) hS358 (a := _) (nn := _) (c := _) rfl (a2 := _) (k2 := _) (c2 := _) rfl (.there .here) (row_src (hS358.toHeld.own .here) (RCs.allOne RInt.one (by decide) hrc359)) (lim_b hc360 rfl) (lim_a hc360) ?_
   intro a361 c362 w363 hS364
   have hrc366 := RCs.append hrc315 hrc359
   generalize cs313 ++ [.int .i64 r339.1] = cs367 at hS364 hrc366
   have hS368 := hS364.weaken (.cons_cons _ (.cons _ (.cons_cons _ (.cons_cons _ (.cons_cons _ (.cons_cons _ (.refl _)))))))
   refine wl_h hS368.toHeld (r_assign (v := .slice _ _ _) rfl) <| wl_nil <| c_region <| wl_h hS368.toHeld (r_move (v := .int .i64 _) rfl) ?_
   obtain ⟨hc369, hM⟩ := chk_ok hM
   refine wl_h hS368.toHeld (r_add (a := _) (b := _) rfl rfl (ok_lo hc369) (ok_hi hc369)) <| wl_h hS368.toHeld (r_move (v := .int .i64 _) rfl) <| wl_h hS368.toHeld (r_assign (v := .int .i64 _) rfl) <| wl_h hS368.toHeld (r_assign (v := .int .i64 _) rfl) <| wl_nil <| c_nil <| q_norm <| c_region ?_
   obtain ⟨hc370, hM⟩ := chk_ok hM
   refine wl_h hS368.toHeld (r_add (a := _) (b := _) rfl rfl (ok_lo hc370) (ok_hi hc370)) <| wl_h hS368.toHeld (r_move (v := .int .i64 _) rfl) <| wl_nil <| c_nil <| q_loop ?_
   exact ⟨k_0, Nat.lt_succ_self _, x330 + 1, r339.2.1, x308 + 1, (l309 ++ [r339.1]), a361, (l309.length + 1), c362, cs367, hM, row_n (hS368.toHeld.own .here) hrc366 (by decide), hrc366, hS368, rfl, rfl, rfl, rfl, rfl, rfl, rfl, rfl, rfl⟩
 ·replace hM := bif_f h329 hM
  refine c_exit <| q_loopx <| q_hit <| c_seq <| c_region <| wl_h hS319.toHeld (r_move (v := .int .i64 _) rfl) ?_
  refine wl_h hS319.toHeld (r_fieldAddr fld25_1 (b := _) (o := _) rfl) <| wl_h hS319.toHeld (r_box ty23 (k := 1) (.there (.there (.there (.there .here)))) rfl rfl rfl (v := .slice _ _ _) rfl) <| wl_h hS319.toHeld (r_move (v := .int .i64 _) rfl) ?_
  obtain ⟨x371, hx372, h373, h374, hM⟩ := getK_ok hM
  obtain ⟨b375, o376, rfl⟩ := RSl.elem_a hr11 hx372
  obtain ⟨cs377, hI378, hR379⟩ := RSl.elem_at hr11 hx372
  obtain ⟨a380, n381, c382, rfl, hr383⟩ := hR379
  obtain rfl := hr383.1
  refine wl_h hS319.toHeld (r_indexAddr Tryz.underlying23 ty26 (b := _) (o := _) (n := _) (c := _) (i := from306) rfl rfl h373 (RSl.lt hr11 h374)) <| wl_h hS319.toHeld (r_imm ty26 (k := 0) hI378 rfl rfl rfl (v := .slice _ _ _) rfl) ?_
  obtain ⟨x384, hx385, h386, h387, hM⟩ := getK_ok hM
  obtain ⟨b388, o389, rfl⟩ := RSl.elem_a hr383 hx385
  obtain ⟨cs390, hI391, hR392⟩ := RSl.elem_at hr383 hx385
  obtain rfl := hR392
  refine wl_h hS319.toHeld (r_indexAddr Tryz.underlying26 ty3 (b := _) (o := _) (n := _) (c := _) (i := 0) rfl rfl h386 (RSl.lt hr383 h387)) <| wl_h hS319.toHeld (r_imm ty3 (k := 0) hI391 rfl rfl rfl (v := .int .i64 _) rfl) ?_
  obtain ⟨hc393, hM⟩ := chk_ok hM
  refine wl_h hS319.toHeld (r_add (a := _) (b := _) rfl rfl (ok_lo hc393) (ok_hi hc393)) <| wl_h hS319.toHeld (r_fieldAddr fld61_2 (b := _) (o := _) rfl) <| wl_store_box ty3 hS319 rfl (v := .int .i64 _) rfl (vs := [.int .i64 _]) rfl rfl rfl (.there .here) (cs' := [.slice _ _ _, .int .i64 _, .int .i64 _]) rfl rfl ?_
  intro w394 hS395
  refine wl_nil <| c_seq ?_
  have hH401 := (hS395.weaken (.cons_cons _ (.cons_cons _ (.cons_cons _ (.cons _ (.cons_cons _ (.refl _))))))).toHeld
  refine c_draw (k := 10) (fun w => Held w m (.row (.slice a310 l309.length c312) 3 1 cs313 :: .box b36 61 [.slice a28 r25.length c30, .int .i64 leave18, .int .i64 (at307 + x384)] :: .row (.slice a28 r25.length c30) 3 1 cs31 :: .box b19 25 [.slice a4 f3.stops.length c6, .slice (some ⟨b375, o376, none⟩) f3.minutes.length c10, .int .i64 f3.cap, .int .i64 f3.start, .int .i64 f3.back] :: L)) mixed rfl ?_
  replace hH401 := hH401.drew1
  have hS402 := hS395.drew1
  refine d_v (i := 0) rfl (by kernel_rfl) rfl (r_box ty61 (k := 0) (.there .here) rfl rfl rfl (v := .agg #[.slice _ _ _, .int .i64 _, .int .i64 _]) rfl) hH401 ?_
  refine d_v (i := 1) rfl (by kernel_rfl) rfl (r_move (v := .slice _ _ _) rfl) hH401 ?_
  refine d_v (i := 2) rfl (by kernel_rfl) rfl (r_fieldAddr fld61_2 (b := _) (o := _) rfl) hH401 ?_
  refine d_v (i := 3) rfl (by kernel_rfl) rfl (r_box ty3 (k := 2) (.there .here) rfl rfl rfl (v := .int .i64 _) rfl) hH401 ?_
  refine d_v (i := 4) rfl (by kernel_rfl) rfl (r_fieldAddr fld25_4 (b := _) (o := _) rfl) hH401 ?_
  refine d_v (i := 5) rfl (by kernel_rfl) rfl (r_box ty3 (k := 4) (.there (.there (.there .here))) rfl rfl rfl (v := .int .i64 _) rfl) hH401 ?_
  refine d_v (i := 6) rfl (by kernel_rfl) rfl (r_leq (a := _) (b := _) rfl rfl) hH401 ?_
  refine d_all (rs := [7]) (by kernel_rfl) (by simp) (fun j hj o ho => ?_)
  obtain rfl : j = 7 := by simpa using hj
  cases ho
  refine wl_store_box ty61 hS402 rfl (v := .agg #[.slice _ _ _, .int .i64 _, .int .i64 _]) rfl (vs := [.slice _ _ _, .int .i64 _, .int .i64 _]) rfl rfl rfl (.there (.there (.there .here))) (cs' := [.slice _ _ _, .int .i64 _, .int .i64 _]) rfl rfl ?_
  intro w403 hS404
  refine wl_nil ?_
  have hH405 := hS404.toHeld.mono (Mem.le_refl _) (List.Sublist.subset (.cons_cons _ (.cons_cons _ (.cons_cons _ (.cons _ (.cons_cons _ (.refl _)))))))
  refine ⟨hH405, ?_⟩
  refine d_v (i := 8) rfl (by kernel_rfl) rfl (r_assign (v := .slice _ _ _) rfl) hH405 ?_
  refine d_v (i := 9) rfl (by kernel_rfl) rfl (r_assign (v := .bool _) rfl) hH405 ?_
  refine d_end (by kernel_rfl) ?_
  refine c_ret <| ret_many rfl (.cell (v := .agg #[.slice _ _ _, .int .i64 _, .int .i64 _]) rfl (ty61.run_loadVar (cs := [.slice _ _ _, .int .i64 _, .int .i64 _]) (box_at (hS404.toHeld.own (.there (.there (.there .here))))) rfl) (.tmp (v := .slice _ _ _) rfl (.tmp (v := .bool _) rfl .nil))) ?_
  obtain rfl := some_eq hM
  have hS406 := hS404.weaken (.cons_cons _ (.cons _ (.cons_cons _ (.cons _ (.cons _ (.refl _))))))
  have hS407 := hS406.front (.there .here)
  exact ⟨a28, r25.length, c30, cs31, a310, l309.length, c312, cs313, rfl, row_n (hS407.toHeld.own .here) hrc32 (by decide), hrc32, row_n (hS407.toHeld.own (.there .here)) hrc315 (by decide), hrc315, hS407⟩

theorem cg67 {m : Mem} {L : List Atom} {w : World} {cs1 : List Value} {f3 : Fleet} {a13 : Option Addr} {n14 c15 : Nat} {stops17 : List Int} (hS : St w m L) (hx2 : RFleet m cs1 f3) (hr16 : RSl 1 RInt m a13 n14 c15 stops17) {fuel : Nat} {r : Int} (hM : mg67 fuel f3 stops17 = some r) : Calls P0 67 [.agg cs1.toArray, .slice a13 n14 c15].toArray w (Ret fun v w' => v = .int .i64 r ∧ St w' m (L)) := by
 rw [mg67] at hM
 have hk12 := hx2
 obtain ⟨a4, n5, c6, a8, n9, c10, rfl, hr7, hr11⟩ := hx2
 obtain rfl := hr7.1
 obtain rfl := hr11.1
 obtain rfl := hr16.1
 refine enter Tryz.func67 rfl Tryz.ntmps67 (Nat.le_of_ble_eq_true rfl) ?_
 refine c_seq <| c_region <| wl_box hS (v := .agg #[.slice _ _ _, .slice _ _ _, .int .i64 _, .int .i64 _, .int .i64 _]) rfl (cs := [.slice _ _ _, .slice _ _ _, .int .i64 _, .int .i64 _, .int .i64 _]) rfl ?_
 intro b18 w19 hS20
 refine wl_h hS20.toHeld (r_assign (v := .int .i64 _) rfl) <| wl_nil <| c_seq <| c_region <| wl_h hS20.toHeld (r_fieldAddr fld25_3 (b := _) (o := _) rfl) ?_
 refine wl_h hS20.toHeld (r_box ty3 (k := 3) .here rfl rfl rfl (v := .int .i64 _) rfl) <| wl_h hS20.toHeld (r_assign (v := .int .i64 _) rfl) <| wl_nil <| c_seq <| c_seq <| c_region <| wl_h hS20.toHeld (r_move (v := .slice _ _ _) rfl) ?_
 refine wl_h hS20.toHeld (r_len Tryz.underlying26 (a := _) (n := _) (c := _) rfl) <| wl_h hS20.toHeld (r_move (v := .int .i64 _) rfl) <| wl_nil <| c_block <| c_loop (fun k f w => ∃ (at44 : Int) (x45 : Int), mg67_l0 fuel f3 stops17 k at44 x45 = some r ∧ St w m (.box b18 25 [.slice a4 f3.stops.length c6, .slice a8 f3.minutes.length c10, .int .i64 f3.cap, .int .i64 f3.start, .int .i64 f3.back] :: L) ∧ f 2 = .pointer (some ⟨b18, 0, none⟩) ∧ f 5 = .int .i64 at44 ∧ f 10 = .slice a13 stops17.length c15 ∧ f 11 = .int .i64 ((stops17.length : Nat) : Int) ∧ f 12 = .int .i64 x45) fuel ⟨f3.start, 0, hM, hS20, rfl, rfl, rfl, rfl, rfl⟩ ?_
 rintro k_0 f46 w47 ⟨at44, x45, hM, hS49, e50, e51, e52, e53, e54⟩
 refine c_know (t := 2) e50 <| c_know (t := 5) e51 <| c_know (t := 10) e52 <| c_know (t := 11) e53 <| c_know (t := 12) e54 ?_
 clear e50 e51 e52 e53 e54
 rcases k_0 with _ | k_0
 · exact none_ne hM
 rw [mg67_l0] at hM
 refine c_seq <| c_region <| wl_h hS49.toHeld (r_lss (a := _) (b := _) rfl rfl) <| wl_nil <| c_seq <| c_cond (c := _) rfl (fun h55 => ?_) (fun h55 => ?_)
 ·replace hM := bif_t h55 hM
  refine c_skip <| c_seq <| c_block <| c_seq <| c_region ?_
  obtain ⟨x56, hx57, h58, h59, hM⟩ := getK_ok hM
  obtain ⟨b60, o61, rfl⟩ := RSl.elem_a hr16 hx57
  obtain ⟨cs62, hI63, hR64⟩ := RSl.elem_at hr16 hx57
  obtain rfl := hR64
  refine wl_h hS49.toHeld (r_indexAddr Tryz.underlying26 ty3 (b := _) (o := _) (n := _) (c := _) (i := x45) rfl rfl h58 (RSl.lt hr16 h59)) <| wl_h hS49.toHeld (r_imm ty3 (k := 0) hI63 rfl rfl rfl (v := .int .i64 _) rfl) <| wl_h hS49.toHeld (r_assign (v := .int .i64 _) rfl) <| wl_nil <| c_region <| wl_h hS49.toHeld (r_move (v := .int .i64 _) rfl) ?_
  refine wl_h hS49.toHeld (r_fieldAddr fld25_0 (b := _) (o := _) rfl) <| wl_h hS49.toHeld (r_box ty22 (k := 0) .here rfl rfl rfl (v := .slice _ _ _) rfl) <| wl_h hS49.toHeld (r_move (v := .int .i64 _) rfl) ?_
  obtain ⟨x65, hx66, h67, h68, hM⟩ := getK_ok hM
  obtain ⟨b69, o70, rfl⟩ := RSl.elem_a hr7 hx66
  obtain ⟨cs71, hI72, hR73⟩ := RSl.elem_at hr7 hx66
  obtain rfl := hR73
  refine wl_h hS49.toHeld (r_indexAddr Tryz.underlying22 ty34 (b := _) (o := _) (n := _) (c := _) (i := x56) rfl rfl h67 (RSl.lt hr7 h68)) <| wl_h hS49.toHeld (r_fieldAddr fld34_1 (b := _) (o := _) rfl) <| wl_h hS49.toHeld (r_imm ty3 (k := 1) hI72 rfl rfl rfl (v := .int .i64 _) rfl) <| wl_h hS49.toHeld (r_max (a := _) (b := _) rfl rfl) <| wl_h hS49.toHeld (r_assign (v := .int .i64 _) rfl) ?_
  refine wl_nil <| c_nil <| q_norm <| c_region ?_
  obtain ⟨hc74, hM⟩ := chk_ok hM
  refine wl_h hS49.toHeld (r_add (a := _) (b := _) rfl rfl (ok_lo hc74) (ok_hi hc74)) <| wl_h hS49.toHeld (r_move (v := .int .i64 _) rfl) <| wl_nil <| c_nil <| q_loop ?_
  exact ⟨k_0, Nat.lt_succ_self _, max at44 x65.ready, x45 + 1, hM, hS49, rfl, rfl, rfl, rfl, rfl⟩
 ·replace hM := bif_f h55 hM
  refine c_exit <| q_loopx <| q_hit <| c_seq <| c_region <| wl_h hS49.toHeld (r_move (v := .int .i64 _) rfl) ?_
  refine wl_h hS49.toHeld (r_assign (v := .int .i64 _) rfl) <| wl_nil <| c_ret <| ret_tmp (t := 4) rfl (v := .int .i64 _) rfl ?_
  obtain rfl := some_eq hM
  have hS75 := hS49.weaken (.cons _ (.refl _))
  exact ⟨rfl, hS75⟩

theorem cg20 {m : Mem} {L : List Atom} {w : World} {cs1 : List Value} {f3 : Fleet} {a13 : Option Addr} {n14 c15 : Nat} {stops17 : List Int} (hS : St w m L) (hx2 : RFleet m cs1 f3) (hr16 : RSl 1 RInt m a13 n14 c15 stops17) {fuel : Nat} {r : Tour × (List Int) × Int} (hM : mg20 fuel f3 stops17 = some r) : Calls P0 20 [.agg cs1.toArray, .slice a13 n14 c15].toArray w (Ret fun v w' => ∃ (a0 : Option Addr) (n0 : Nat) (c0 : Nat) (cs0 : List Value) (a1 : Option Addr) (n1 : Nat) (c1 : Nat) (cs1 : List Value), v = .tuple #[.agg #[.slice a0 n0 c0, .int .i64 r.1.leave, .int .i64 r.1.fin], .slice a1 n1 c1, .int .i64 r.2.2] ∧ n0 = r.1.stops.length ∧ RCs 1 RInt m cs0 r.1.stops ∧ n1 = r.2.1.length ∧ RCs 1 RInt m cs1 r.2.1 ∧ St w' m (.row (.slice a0 n0 c0) 3 1 cs0 :: .row (.slice a1 n1 c1) 3 1 cs1 :: L)) := by
 rw [mg20] at hM
 have hk12 := hx2
 obtain ⟨a4, n5, c6, a8, n9, c10, rfl, hr7, hr11⟩ := hx2
 obtain rfl := hr7.1
 obtain rfl := hr11.1
 obtain rfl := hr16.1
 refine enter Tryz.func20 rfl Tryz.ntmps20 (Nat.le_of_ble_eq_true rfl) ?_
 refine c_seq <| c_region <| wl_box hS (v := .agg #[.slice _ _ _, .slice _ _ _, .int .i64 _, .int .i64 _, .int .i64 _]) rfl (cs := [.slice _ _ _, .slice _ _ _, .int .i64 _, .int .i64 _, .int .i64 _]) rfl ?_
 intro b18 w19 hS20
 refine wl_alloc ty61 rfl hS20 ?_
 intro b21 w22 hS23
 refine wl_h hS23.toHeld (r_assign (v := .slice _ _ _) rfl) <| wl_h hS23.toHeld (r_assign (v := .int .i64 _) rfl) <| wl_nil <| c_seq <| c_seq <| c_region <| wl_h hS23.toHeld (r_box ty25 (k := 0) (.there .here) rfl rfl rfl (v := .agg #[.slice _ _ _, .slice _ _ _, .int .i64 _, .int .i64 _, .int .i64 _]) rfl) ?_
 refine wl_h hS23.toHeld (r_move (v := .slice _ _ _) rfl) ?_
 obtain ⟨r24, hq25, hM⟩ := bnd_ok hM
 refine wl_call ent65 (vals := [.agg #[.slice _ _ _, .slice _ _ _, .int .i64 _, .int .i64 _, .int .i64 _], .slice _ _ _]) rfl (cg65 hS23 hk12 hr16 hq25) ?_
 rintro _ w27 ⟨rfl, hS28⟩
 refine wl_h hS28.toHeld (r_assign (v := .int .i64 _) rfl) <| wl_nil <| c_seq <| c_region <| wl_h hS28.toHeld (r_move (v := .int .i64 _) rfl) ?_
 refine wl_h hS28.toHeld (r_neq (a := _) (b := _) rfl rfl) <| wl_nil <| c_cond (c := _) rfl (fun h29 => ?_) (fun h29 => ?_)
 ·replace hM := bif_t h29 hM
  refine c_seq <| c_region <| wl_h hS28.toHeld (r_build ty61 st61 (ps := []) rfl rfl (cs := [.slice _ _ _, .int .i64 _, .int .i64 _]) rfl) <| wl_h hS28.toHeld (r_move (v := .int .i64 _) rfl) <| wl_store_box ty61 hS28 rfl (v := .agg #[.slice _ _ _, .int .i64 _, .int .i64 _]) rfl (vs := [.slice _ _ _, .int .i64 _, .int .i64 _]) rfl rfl rfl .here (cs' := [.slice _ _ _, .int .i64 _, .int .i64 _]) rfl rfl ?_
  intro w30 hS31
  refine wl_h hS31.toHeld (r_assign (v := .slice _ _ _) rfl) <| wl_h hS31.toHeld (r_assign (v := .int .i64 _) rfl) <| wl_nil <| c_ret <| ret_many rfl (.cell (v := .agg #[.slice _ _ _, .int .i64 _, .int .i64 _]) rfl (ty61.run_loadVar (cs := [.slice _ _ _, .int .i64 _, .int .i64 _]) (box_at (hS31.toHeld.own .here)) rfl) (.tmp (v := .slice _ _ _) rfl (.tmp (v := .int .i64 _) rfl .nil))) ?_
  have hS32 := hS31.nilRow 3 1
  have hrc34 : RCs 1 RInt m [] ([] : List Int) := RCs.nil
  have hS35 := hS32.nilRow 3 1
  have hrc37 : RCs 1 RInt m [] ([] : List Int) := RCs.nil
  obtain rfl := some_eq hM
  have hS38 := hS35.weaken (.cons_cons _ (.cons_cons _ (.cons _ (.cons _ (.refl _)))))
  have hS39 := hS38.front (.there .here)
  exact ⟨none, 0, 0, [], none, 0, 0, [], rfl, row_n (hS39.toHeld.own .here) hrc34 (by decide), hrc34, row_n (hS39.toHeld.own (.there .here)) hrc37 (by decide), hrc37, hS39⟩
 ·replace hM := bif_f h29 hM
  refine c_skip <| c_seq ?_
  obtain ⟨r42, hq43, hM⟩ := bnd_ok hM
  obtain ⟨r48, hq49, hM⟩ := bnd_ok hM
  have hH87 := (hS28.weaken (.cons_cons _ (.cons_cons _ (.refl _)))).toHeld
  refine c_drawJ (k := 14) (fun f w => ∃ (b74 : Nat) (a75 : Option Addr) (n76 : Nat) (c77 : Nat) (cs78 : List Value) (a81 : Option Addr) (n82 : Nat) (c83 : Nat) (cs84 : List Value), n76 = (r48.1.stops).length ∧ RCs 1 RInt m cs78 r48.1.stops ∧ n82 = (r48.2.1).length ∧ RCs 1 RInt m cs84 r48.2.1 ∧ St w m (.box b74 61 [.slice a75 n76 c77, .int .i64 r48.1.leave, .int .i64 r48.1.fin] :: .row (.slice a75 n76 c77) 3 1 cs78 :: .row (.slice a81 n82 c83) 3 1 cs84 :: .box b21 61 [.slice none 0 0, .int .i64 0, .int .i64 0] :: L) ∧ f 4 = .pointer (some ⟨b21, 0, none⟩) ∧ f 5 = .slice none 0 0 ∧ f 6 = .int .i64 0 ∧ f 8 = .pointer (some ⟨b74, 0, none⟩) ∧ f 9 = .slice a81 n82 c83 ∧ f 10 = .bool r48.2.2) (fun w => Held w m (.box b21 61 [.slice none 0 0, .int .i64 0, .int .i64 0] :: .box b18 25 [.slice a4 f3.stops.length c6, .slice a8 f3.minutes.length c10, .int .i64 f3.cap, .int .i64 f3.start, .int .i64 f3.back] :: L)) mixed rfl ?_ ?_
  ·replace hH87 := hH87.drew1
   have hS88 := hS28.drew1
   refine d_v (i := 0) rfl (by kernel_rfl) rfl (r_box ty25 (k := 0) (.there .here) rfl rfl rfl (v := .agg #[.slice _ _ _, .slice _ _ _, .int .i64 _, .int .i64 _, .int .i64 _]) rfl) hH87 ?_
   refine d_v (i := 1) rfl (by kernel_rfl) rfl (r_move (v := .slice _ _ _) rfl) hH87 ?_
   refine d_v (i := 2) rfl (by kernel_rfl) rfl (r_box ty25 (k := 0) (.there .here) rfl rfl rfl (v := .agg #[.slice _ _ _, .slice _ _ _, .int .i64 _, .int .i64 _, .int .i64 _]) rfl) hH87 ?_
   refine d_v (i := 3) rfl (by kernel_rfl) rfl (r_move (v := .slice _ _ _) rfl) hH87 ?_
   refine d_all (rs := [4, 10]) (by kernel_rfl) (by simp) (fun j hj o ho => ?_)
   simp only [List.mem_cons, List.not_mem_nil, or_false] at hj
   rcases hj with rfl | rfl
   ·cases ho
    refine wl_call ent67 (vals := [.agg #[.slice _ _ _, .slice _ _ _, .int .i64 _, .int .i64 _, .int .i64 _], .slice _ _ _]) rfl (cg67 hS88 hk12 hr16 hq43) ?_
    rintro _ w90 ⟨rfl, hS91⟩
    refine wl_nil ?_
    have hH92 := hS91.toHeld.mono (Mem.le_refl _) (List.Sublist.subset (.cons_cons _ (.cons_cons _ (.refl _))))
    refine ⟨hH92, ?_⟩
    refine d_all (rs := [5, 10]) (by kernel_rfl) (by simp) (fun j hj o ho => ?_)
    simp only [List.mem_cons, List.not_mem_nil, or_false] at hj
    rcases hj with rfl | rfl
    ·cases ho
     refine wl_call ent66 (vals := [.agg #[.slice _ _ _, .slice _ _ _, .int .i64 _, .int .i64 _, .int .i64 _], .slice _ _ _, .int .i64 _]) rfl (cg66 hS91 hk12 hr16 hq49) ?_
     rintro _ w106 ⟨a94, n95, c96, cs97, a100, n101, c102, cs103, rfl, rfl, hrc98, rfl, hrc104, hS107⟩
     refine wl_nil ?_
     have hH108 := hS107.toHeld.mono (Mem.le_refl _) (List.Sublist.subset (.cons _ (.cons _ (.cons_cons _ (.cons_cons _ (.refl _))))))
     refine ⟨hH108, ?_⟩
     refine d_v (i := 6) rfl (by kernel_rfl) rfl (r_move (v := .tuple #[.agg #[.slice _ _ _, .int .i64 _, .int .i64 _], .slice _ _ _, .bool _]) rfl) hH108 ?_
     refine d_v (i := 7) rfl (by kernel_rfl) rfl (r_extract (vs := [.agg #[.slice _ _ _, .int .i64 _, .int .i64 _], .slice _ _ _, .bool _]) rfl (v := .agg #[.slice _ _ _, .int .i64 _, .int .i64 _]) rfl) hH108 ?_
     refine d_v (i := 8) rfl (by kernel_rfl) rfl (r_extract (vs := [.agg #[.slice _ _ _, .int .i64 _, .int .i64 _], .slice _ _ _, .bool _]) rfl (v := .slice _ _ _) rfl) hH108 ?_
     refine d_v (i := 9) rfl (by kernel_rfl) rfl (r_extract (vs := [.agg #[.slice _ _ _, .int .i64 _, .int .i64 _], .slice _ _ _, .bool _]) rfl (v := .bool _) rfl) hH108 ?_
     refine d_all (rs := [10]) (by kernel_rfl) (by simp) (fun j hj o ho => ?_)
     obtain rfl : j = 10 := by simpa using hj
     cases ho
     refine wl_alloc ty61 rfl hS107 ?_
     intro b109 w110 hS111
     refine wl_nil ?_
     have hH112 := hS111.toHeld.mono (Mem.le_refl _) (List.Sublist.subset (.cons _ (.cons _ (.cons _ (.cons_cons _ (.cons_cons _ (.refl _)))))))
     refine ⟨hH112, ?_⟩
     refine d_all (rs := [11]) (by kernel_rfl) (by simp) (fun j hj o ho => ?_)
     obtain rfl : j = 11 := by simpa using hj
     cases ho
     refine wl_store_box ty61 hS111 rfl (v := .agg #[.slice _ _ _, .int .i64 _, .int .i64 _]) rfl (vs := [.slice _ _ _, .int .i64 _, .int .i64 _]) rfl rfl rfl .here (cs' := [.slice _ _ _, .int .i64 _, .int .i64 _]) rfl rfl ?_
     intro w113 hS114
     refine wl_nil ?_
     have hH115 := hS114.toHeld.mono (Mem.le_refl _) (List.Sublist.subset (.cons _ (.cons _ (.cons _ (.cons_cons _ (.cons_cons _ (.refl _)))))))
     refine ⟨hH115, ?_⟩
     refine d_v (i := 12) rfl (by kernel_rfl) rfl (r_assign (v := .slice _ _ _) rfl) hH115 ?_
     refine d_v (i := 13) rfl (by kernel_rfl) rfl (r_assign (v := .bool _) rfl) hH115 ?_
     refine d_end (by kernel_rfl) ?_
     have hS116 := hS114.weaken (.cons_cons _ (.cons_cons _ (.cons_cons _ (.cons_cons _ (.cons _ (.refl _))))))
     exact ⟨_, _, _, _, _, _, _, _, _, row_n (hS116.toHeld.own (.there .here)) hrc98 (by decide), hrc98, row_n (hS116.toHeld.own (.there (.there .here))) hrc104 (by decide), hrc104, hS116, rfl, rfl, rfl, rfl, rfl, rfl⟩
    ·cases ho
     refine wl_alloc ty61 rfl hS91 ?_
     intro b117 w118 hS119
     refine wl_nil ?_
     have hH120 := hS119.toHeld.mono (Mem.le_refl _) (List.Sublist.subset (.cons _ (.cons_cons _ (.cons_cons _ (.refl _)))))
     refine ⟨hH120, ?_⟩
     refine d_all (rs := [5]) (by kernel_rfl) (by simp) (fun j hj o ho => ?_)
     obtain rfl : j = 5 := by simpa using hj
     cases ho
     refine wl_call ent66 (vals := [.agg #[.slice _ _ _, .slice _ _ _, .int .i64 _, .int .i64 _, .int .i64 _], .slice _ _ _, .int .i64 _]) rfl (cg66 hS119 hk12 hr16 hq49) ?_
     rintro _ w134 ⟨a122, n123, c124, cs125, a128, n129, c130, cs131, rfl, rfl, hrc126, rfl, hrc132, hS135⟩
     refine wl_nil ?_
     have hH136 := hS135.toHeld.mono (Mem.le_refl _) (List.Sublist.subset (.cons _ (.cons _ (.cons _ (.cons_cons _ (.cons_cons _ (.refl _)))))))
     refine ⟨hH136, ?_⟩
     refine d_v (i := 6) rfl (by kernel_rfl) rfl (r_move (v := .tuple #[.agg #[.slice _ _ _, .int .i64 _, .int .i64 _], .slice _ _ _, .bool _]) rfl) hH136 ?_
     refine d_v (i := 7) rfl (by kernel_rfl) rfl (r_extract (vs := [.agg #[.slice _ _ _, .int .i64 _, .int .i64 _], .slice _ _ _, .bool _]) rfl (v := .agg #[.slice _ _ _, .int .i64 _, .int .i64 _]) rfl) hH136 ?_
     refine d_v (i := 8) rfl (by kernel_rfl) rfl (r_extract (vs := [.agg #[.slice _ _ _, .int .i64 _, .int .i64 _], .slice _ _ _, .bool _]) rfl (v := .slice _ _ _) rfl) hH136 ?_
     refine d_v (i := 9) rfl (by kernel_rfl) rfl (r_extract (vs := [.agg #[.slice _ _ _, .int .i64 _, .int .i64 _], .slice _ _ _, .bool _]) rfl (v := .bool _) rfl) hH136 ?_
     refine d_all (rs := [11]) (by kernel_rfl) (by simp) (fun j hj o ho => ?_)
     obtain rfl : j = 11 := by simpa using hj
     cases ho
     refine wl_store_box ty61 hS135 rfl (v := .agg #[.slice _ _ _, .int .i64 _, .int .i64 _]) rfl (vs := [.slice _ _ _, .int .i64 _, .int .i64 _]) rfl rfl rfl (.there (.there .here)) (cs' := [.slice _ _ _, .int .i64 _, .int .i64 _]) rfl rfl ?_
     intro w137 hS138
     refine wl_nil ?_
     have hH139 := hS138.toHeld.mono (Mem.le_refl _) (List.Sublist.subset (.cons _ (.cons _ (.cons _ (.cons_cons _ (.cons_cons _ (.refl _)))))))
     refine ⟨hH139, ?_⟩
     refine d_v (i := 12) rfl (by kernel_rfl) rfl (r_assign (v := .slice _ _ _) rfl) hH139 ?_
     refine d_v (i := 13) rfl (by kernel_rfl) rfl (r_assign (v := .bool _) rfl) hH139 ?_
     refine d_end (by kernel_rfl) ?_
     have hS140 := hS138.weaken (.cons_cons _ (.cons_cons _ (.cons_cons _ (.cons_cons _ (.cons _ (.refl _))))))
     have hS141 := hS140.front (.there (.there (.there .here)))
     have hS142 := hS141.front (.there (.there .here))
     have hS143 := hS142.front (.there (.there .here))
     have hS144 := hS143.front (.there (.there (.there .here)))
     exact ⟨_, _, _, _, _, _, _, _, _, row_n (hS144.toHeld.own (.there .here)) hrc126 (by decide), hrc126, row_n (hS144.toHeld.own (.there (.there .here))) hrc132 (by decide), hrc132, hS144, rfl, rfl, rfl, rfl, rfl, rfl⟩
   ·cases ho
    refine wl_alloc ty61 rfl hS88 ?_
    intro b145 w146 hS147
    refine wl_nil ?_
    have hH148 := hS147.toHeld.mono (Mem.le_refl _) (List.Sublist.subset (.cons _ (.cons_cons _ (.cons_cons _ (.refl _)))))
    refine ⟨hH148, ?_⟩
    refine d_all (rs := [4]) (by kernel_rfl) (by simp) (fun j hj o ho => ?_)
    obtain rfl : j = 4 := by simpa using hj
    cases ho
    refine wl_call ent67 (vals := [.agg #[.slice _ _ _, .slice _ _ _, .int .i64 _, .int .i64 _, .int .i64 _], .slice _ _ _]) rfl (cg67 hS147 hk12 hr16 hq43) ?_
    rintro _ w150 ⟨rfl, hS151⟩
    refine wl_nil ?_
    have hH152 := hS151.toHeld.mono (Mem.le_refl _) (List.Sublist.subset (.cons _ (.cons_cons _ (.cons_cons _ (.refl _)))))
    refine ⟨hH152, ?_⟩
    refine d_all (rs := [5]) (by kernel_rfl) (by simp) (fun j hj o ho => ?_)
    obtain rfl : j = 5 := by simpa using hj
    cases ho
    refine wl_call ent66 (vals := [.agg #[.slice _ _ _, .slice _ _ _, .int .i64 _, .int .i64 _, .int .i64 _], .slice _ _ _, .int .i64 _]) rfl (cg66 hS151 hk12 hr16 hq49) ?_
    rintro _ w166 ⟨a154, n155, c156, cs157, a160, n161, c162, cs163, rfl, rfl, hrc158, rfl, hrc164, hS167⟩
    refine wl_nil ?_
    have hH168 := hS167.toHeld.mono (Mem.le_refl _) (List.Sublist.subset (.cons _ (.cons _ (.cons _ (.cons_cons _ (.cons_cons _ (.refl _)))))))
    refine ⟨hH168, ?_⟩
    refine d_v (i := 6) rfl (by kernel_rfl) rfl (r_move (v := .tuple #[.agg #[.slice _ _ _, .int .i64 _, .int .i64 _], .slice _ _ _, .bool _]) rfl) hH168 ?_
    refine d_v (i := 7) rfl (by kernel_rfl) rfl (r_extract (vs := [.agg #[.slice _ _ _, .int .i64 _, .int .i64 _], .slice _ _ _, .bool _]) rfl (v := .agg #[.slice _ _ _, .int .i64 _, .int .i64 _]) rfl) hH168 ?_
    refine d_v (i := 8) rfl (by kernel_rfl) rfl (r_extract (vs := [.agg #[.slice _ _ _, .int .i64 _, .int .i64 _], .slice _ _ _, .bool _]) rfl (v := .slice _ _ _) rfl) hH168 ?_
    refine d_v (i := 9) rfl (by kernel_rfl) rfl (r_extract (vs := [.agg #[.slice _ _ _, .int .i64 _, .int .i64 _], .slice _ _ _, .bool _]) rfl (v := .bool _) rfl) hH168 ?_
    refine d_all (rs := [11]) (by kernel_rfl) (by simp) (fun j hj o ho => ?_)
    obtain rfl : j = 11 := by simpa using hj
    cases ho
    refine wl_store_box ty61 hS167 rfl (v := .agg #[.slice _ _ _, .int .i64 _, .int .i64 _]) rfl (vs := [.slice _ _ _, .int .i64 _, .int .i64 _]) rfl rfl rfl (.there (.there .here)) (cs' := [.slice _ _ _, .int .i64 _, .int .i64 _]) rfl rfl ?_
    intro w169 hS170
    refine wl_nil ?_
    have hH171 := hS170.toHeld.mono (Mem.le_refl _) (List.Sublist.subset (.cons _ (.cons _ (.cons _ (.cons_cons _ (.cons_cons _ (.refl _)))))))
    refine ⟨hH171, ?_⟩
    refine d_v (i := 12) rfl (by kernel_rfl) rfl (r_assign (v := .slice _ _ _) rfl) hH171 ?_
    refine d_v (i := 13) rfl (by kernel_rfl) rfl (r_assign (v := .bool _) rfl) hH171 ?_
    refine d_end (by kernel_rfl) ?_
    have hS172 := hS170.weaken (.cons_cons _ (.cons_cons _ (.cons_cons _ (.cons_cons _ (.cons _ (.refl _))))))
    have hS173 := hS172.front (.there (.there (.there .here)))
    have hS174 := hS173.front (.there (.there .here))
    have hS175 := hS174.front (.there (.there .here))
    have hS176 := hS175.front (.there (.there (.there .here)))
    exact ⟨_, _, _, _, _, _, _, _, _, row_n (hS176.toHeld.own (.there .here)) hrc158 (by decide), hrc158, row_n (hS176.toHeld.own (.there (.there .here))) hrc164 (by decide), hrc164, hS176, rfl, rfl, rfl, rfl, rfl, rfl⟩
  ·rintro f184 w185 ⟨b74, a75, n76, c77, cs78, a81, n82, c83, cs84, hn79, hrc80, hn85, hrc86, hS177, e178, e179, e180, e181, e182, e183⟩
   subst hn79
   subst hn85
   refine c_know (t := 4) e178 <| c_know (t := 5) e179 <| c_know (t := 6) e180 <| c_know (t := 8) e181 <| c_know (t := 9) e182 ?_
   refine c_know (t := 10) e183 ?_
   clear e178 e179 e180 e181 e182 e183
   refine c_seq <| c_seq <| c_region <| wl_h hS177.toHeld (r_move (v := .bool _) rfl) <| wl_h hS177.toHeld (r_not (b := _) rfl) ?_
   refine wl_nil <| c_cond (c := _) rfl (fun h186 => ?_) (fun h186 => ?_)
   ·replace hM := bif_t h186 hM
    refine c_seq <| c_region <| wl_h hS177.toHeld (r_build ty61 st61 (ps := []) rfl rfl (cs := [.slice _ _ _, .int .i64 _, .int .i64 _]) rfl) <| wl_store_box ty61 hS177 rfl (v := .agg #[.slice _ _ _, .int .i64 _, .int .i64 _]) rfl (vs := [.slice _ _ _, .int .i64 _, .int .i64 _]) rfl rfl rfl (.there (.there (.there .here))) (cs' := [.slice _ _ _, .int .i64 _, .int .i64 _]) rfl rfl ?_
    intro w187 hS188
    refine wl_h hS188.toHeld (r_assign (v := .slice _ _ _) rfl) <| wl_h hS188.toHeld (r_assign (v := .int .i64 _) rfl) <| wl_nil <| c_ret <| ret_many rfl (.cell (v := .agg #[.slice _ _ _, .int .i64 _, .int .i64 _]) rfl (ty61.run_loadVar (cs := [.slice _ _ _, .int .i64 _, .int .i64 _]) (box_at (hS188.toHeld.own (.there (.there (.there .here))))) rfl) (.tmp (v := .slice _ _ _) rfl (.tmp (v := .int .i64 _) rfl .nil))) ?_
    have hS189 := hS188.nilRow 3 1
    have hrc191 : RCs 1 RInt m [] ([] : List Int) := RCs.nil
    have hS192 := hS189.nilRow 3 1
    have hrc194 : RCs 1 RInt m [] ([] : List Int) := RCs.nil
    obtain rfl := some_eq hM
    have hS195 := hS192.weaken (.cons_cons _ (.cons_cons _ (.cons _ (.cons _ (.cons _ (.cons _ (.refl _)))))))
    have hS196 := hS195.front (.there .here)
    exact ⟨none, 0, 0, [], none, 0, 0, [], rfl, row_n (hS196.toHeld.own .here) hrc191 (by decide), hrc191, row_n (hS196.toHeld.own (.there .here)) hrc194 (by decide), hrc194, hS196⟩
   ·replace hM := bif_f h186 hM
    refine c_skip <| c_seq <| c_region <| wl_h hS177.toHeld (r_box ty61 (k := 0) .here rfl rfl rfl (v := .agg #[.slice _ _ _, .int .i64 _, .int .i64 _]) rfl) <| wl_h hS177.toHeld (r_move (v := .slice _ _ _) rfl) ?_
    refine wl_store_box ty61 hS177 rfl (v := .agg #[.slice _ _ _, .int .i64 _, .int .i64 _]) rfl (vs := [.slice _ _ _, .int .i64 _, .int .i64 _]) rfl rfl rfl (.there (.there (.there .here))) (cs' := [.slice _ _ _, .int .i64 _, .int .i64 _]) rfl rfl ?_
    intro w197 hS198
    refine wl_h hS198.toHeld (r_assign (v := .slice _ _ _) rfl) <| wl_h hS198.toHeld (r_assign (v := .int .i64 _) rfl) <| wl_nil <| c_ret <| ret_many rfl (.cell (v := .agg #[.slice _ _ _, .int .i64 _, .int .i64 _]) rfl (ty61.run_loadVar (cs := [.slice _ _ _, .int .i64 _, .int .i64 _]) (box_at (hS198.toHeld.own (.there (.there (.there .here))))) rfl) (.tmp (v := .slice _ _ _) rfl (.tmp (v := .int .i64 _) rfl .nil))) ?_
    obtain rfl := some_eq hM
    have hS199 := hS198.weaken (.cons _ (.cons_cons _ (.cons_cons _ (.cons _ (.refl _)))))
    exact ⟨a75, r48.1.stops.length, c77, cs78, a81, r48.2.1.length, c83, cs84, rfl, row_n (hS199.toHeld.own .here) hrc80 (by decide), hrc80, row_n (hS199.toHeld.own (.there .here)) hrc86 (by decide), hrc86, hS199⟩

theorem cg88 {m : Mem} {L : List Atom} {w : World} {a1 : Option Addr} {n2 c3 : Nat} {l5 : List Int} {n6 : Int} (hS : St w m L) (hr4 : RSl 1 RInt m a1 n2 c3 l5) {fuel : Nat} {r : Bool} (hM : mg88 fuel l5 n6 = some r) : Calls P0 88 [.slice a1 n2 c3, .int .i64 n6].toArray w (Ret fun v w' => v = .bool r ∧ St w' m (L)) := by
 rw [mg88] at hM
 obtain rfl := hr4.1
 refine enter Tryz.func88 rfl Tryz.ntmps88 (Nat.le_of_ble_eq_true rfl) ?_
 refine c_seq <| c_region <| wl_h hS.toHeld (r_assign (v := .bool _) rfl) <| wl_nil <| c_seq <| c_seq <| c_region <| wl_h hS.toHeld (r_assign (v := .int .i64 _) rfl) ?_
 refine wl_nil <| c_block <| c_loop (fun k f w => ∃ (i20 : Int), mg88_l0 fuel l5 n6 k i20 = some r ∧ St w m (L) ∧ f 0 = .slice a1 l5.length c3 ∧ f 1 = .int .i64 n6 ∧ f 5 = .int .i64 i20) fuel ⟨0, hM, hS, rfl, rfl, rfl⟩ ?_
 rintro k_0 f21 w22 ⟨i20, hM, hS24, e25, e26, e27⟩
 refine c_know (t := 0) e25 <| c_know (t := 1) e26 <| c_know (t := 5) e27 ?_
 clear e25 e26 e27
 rcases k_0 with _ | k_0
 · exact none_ne hM
 rw [mg88_l0] at hM
 refine c_seq <| c_seq <| c_region <| wl_h hS24.toHeld (r_move (v := .int .i64 _) rfl) <| wl_h hS24.toHeld (r_move (v := .slice _ _ _) rfl) ?_
 refine wl_h hS24.toHeld (r_len Tryz.underlying26 (a := _) (n := _) (c := _) rfl) <| wl_h hS24.toHeld (r_lss (a := _) (b := _) rfl rfl) <| wl_nil <| c_cond (c := _) rfl (fun h28 => ?_) (fun h28 => ?_)
 ·replace hM := bif_t h28 hM
  refine c_skip <| c_seq <| c_block <| c_seq <| c_region <| wl_h hS24.toHeld (r_move (v := .slice _ _ _) rfl) ?_
  refine wl_h hS24.toHeld (r_move (v := .int .i64 _) rfl) ?_
  obtain ⟨x29, hx30, h31, h32, hM⟩ := getK_ok hM
  obtain ⟨b33, o34, rfl⟩ := RSl.elem_a hr4 hx30
  obtain ⟨cs35, hI36, hR37⟩ := RSl.elem_at hr4 hx30
  obtain rfl := hR37
  refine wl_h hS24.toHeld (r_indexAddr Tryz.underlying26 ty3 (b := _) (o := _) (n := _) (c := _) (i := i20) rfl rfl h31 (RSl.lt hr4 h32)) <| wl_h hS24.toHeld (r_imm ty3 (k := 0) hI36 rfl rfl rfl (v := .int .i64 _) rfl) <| wl_h hS24.toHeld (r_move (v := .int .i64 _) rfl) <| wl_h hS24.toHeld (r_eql (a := _) (b := _) rfl rfl) <| wl_nil <| c_cond (c := _) rfl (fun h38 => ?_) (fun h38 => ?_)
  ·replace hM := bif_t h38 hM
   refine c_seq <| c_region <| wl_h hS24.toHeld (r_assign (v := .bool _) rfl) <| wl_nil <| c_ret <| q_retb ?_
   refine q_retl <| q_retb <| ret_tmp (t := 4) rfl (v := .bool _) rfl ?_
   obtain rfl := some_eq hM
   exact ⟨rfl, hS24⟩
  ·replace hM := bif_f h38 hM
   refine c_skip <| c_nil <| q_norm <| c_region <| wl_h hS24.toHeld (r_move (v := .int .i64 _) rfl) ?_
   obtain ⟨hc39, hM⟩ := chk_ok hM
   refine wl_h hS24.toHeld (r_add (a := _) (b := _) rfl rfl (ok_lo hc39) (ok_hi hc39)) <| wl_h hS24.toHeld (r_assign (v := .int .i64 _) rfl) <| wl_nil <| c_nil <| q_loop ?_
   exact ⟨k_0, Nat.lt_succ_self _, i20 + 1, hM, hS24, rfl, rfl, rfl⟩
 ·replace hM := bif_f h28 hM
  refine c_exit <| q_loopx <| q_hit <| c_seq <| c_region <| wl_h hS24.toHeld (r_assign (v := .bool _) rfl) ?_
  refine wl_nil <| c_ret <| ret_tmp (t := 4) rfl (v := .bool _) rfl ?_
  obtain rfl := some_eq hM
  exact ⟨rfl, hS24⟩

theorem cg109 {m : Mem} {L : List Atom} {w : World} {cs1 : List Value} {f3 : Fleet} {a13 : Option Addr} {n14 c15 : Nat} {stops17 : List Int} (hS : St w m L) (hx2 : RFleet m cs1 f3) (hr16 : RSl 1 RInt m a13 n14 c15 stops17) {fuel : Nat} {r : Int} (hM : mg109 fuel f3 stops17 = some r) : Calls P0 109 [.agg cs1.toArray, .slice a13 n14 c15].toArray w (Ret fun v w' => v = .int .i64 r ∧ St w' m (L)) := by
 rw [mg109] at hM
 have hk12 := hx2
 obtain ⟨a4, n5, c6, a8, n9, c10, rfl, hr7, hr11⟩ := hx2
 obtain rfl := hr7.1
 obtain rfl := hr11.1
 obtain rfl := hr16.1
 refine enter Tryz.func109 rfl Tryz.ntmps109 (Nat.le_of_ble_eq_true rfl) ?_
 refine c_seq <| c_region <| wl_box hS (v := .agg #[.slice _ _ _, .slice _ _ _, .int .i64 _, .int .i64 _, .int .i64 _]) rfl (cs := [.slice _ _ _, .slice _ _ _, .int .i64 _, .int .i64 _, .int .i64 _]) rfl ?_
 intro b18 w19 hS20
 refine wl_h hS20.toHeld (r_assign (v := .int .i64 _) rfl) <| wl_nil <| c_seq <| c_region <| wl_h hS20.toHeld (r_assign (v := .int .i64 _) rfl) ?_
 refine wl_nil <| c_seq <| c_seq <| c_region <| wl_h hS20.toHeld (r_assign (v := .int .i64 _) rfl) ?_
 refine wl_nil <| c_block <| c_loop (fun k f w => ∃ (n91 : Int) (i92 : Int), mg109_l0 fuel f3 stops17 k n91 i92 = some r ∧ St w m (.box b18 53 [.slice a4 f3.stops.length c6, .slice a8 f3.minutes.length c10, .int .i64 f3.cap, .int .i64 f3.start, .int .i64 f3.back] :: L) ∧ f 1 = .slice a13 stops17.length c15 ∧ f 2 = .pointer (some ⟨b18, 0, none⟩) ∧ f 5 = .int .i64 n91 ∧ f 6 = .int .i64 i92) fuel ⟨0, 0, hM, hS20, rfl, rfl, rfl, rfl⟩ ?_
 rintro k_0 f93 w94 ⟨n91, i92, hM, hS96, e97, e98, e99, e100⟩
 refine c_know (t := 1) e97 <| c_know (t := 2) e98 <| c_know (t := 5) e99 <| c_know (t := 6) e100 ?_
 clear e97 e98 e99 e100
 rcases k_0 with _ | k_0
 · exact none_ne hM
 rw [mg109_l0] at hM
 refine c_seq <| c_seq <| c_region <| wl_h hS96.toHeld (r_move (v := .int .i64 _) rfl) <| wl_h hS96.toHeld (r_move (v := .slice _ _ _) rfl) ?_
 refine wl_h hS96.toHeld (r_len Tryz.underlying26 (a := _) (n := _) (c := _) rfl) <| wl_h hS96.toHeld (r_lss (a := _) (b := _) rfl rfl) <| wl_nil <| c_cond (c := _) rfl (fun h101 => ?_) (fun h101 => ?_)
 ·replace hM := bif_t h101 hM
  refine c_skip <| c_seq <| c_block ?_
  have hH145 := (hS96.weaken (.cons _ (.refl _))).toHeld
  refine c_draw (k := 12) (fun w => Held w m (L)) mixed rfl ?_
  replace hH145 := hH145.drew1
  have hS146 := hS96.drew1
  refine d_v (i := 0) rfl (by kernel_rfl) rfl (r_move (v := .int .i64 _) rfl) hH145 ?_
  refine d_v (i := 1) rfl (by kernel_rfl) rfl (r_fieldAddr fld53_0 (b := _) (o := _) rfl) hH145 ?_
  refine d_v (i := 3) rfl (by kernel_rfl) rfl (r_move (v := .slice _ _ _) rfl) hH145 ?_
  refine d_v (i := 4) rfl (by kernel_rfl) rfl (r_move (v := .int .i64 _) rfl) hH145 ?_
  obtain ⟨x147, hx148, h149, h150, hM⟩ := getK_ok hM
  obtain ⟨b151, o152, rfl⟩ := RSl.elem_a hr16 hx148
  obtain ⟨cs153, hI154, hR155⟩ := RSl.elem_at hr16 hx148
  obtain rfl := hR155
  refine d_v (i := 5) rfl (by kernel_rfl) rfl (r_indexAddr Tryz.underlying26 ty3 (b := _) (o := _) (n := _) (c := _) (i := i92) rfl rfl h149 (RSl.lt hr16 h150)) hH145 ?_
  refine d_v (i := 6) rfl (by kernel_rfl) rfl (r_imm ty3 (k := 0) hI154 rfl rfl rfl (v := .int .i64 _) rfl) hH145 ?_
  refine d_all (rs := [2]) (by kernel_rfl) (by simp) (fun j hj o ho => ?_)
  obtain rfl : j = 2 := by simpa using hj
  cases ho
  refine wl_h hS146.toHeld (r_box ty51 (k := 0) .here rfl rfl rfl (v := .slice _ _ _) rfl) <| wl_nil ?_
  have hH156 := hS146.toHeld.mono (Mem.le_refl _) (List.Sublist.subset (.cons _ (.refl _)))
  refine ⟨hH156, ?_⟩
  obtain ⟨x157, hx158, h159, h160, hM⟩ := getK_ok hM
  obtain ⟨b161, o162, rfl⟩ := RSl.elem_a hr7 hx158
  obtain ⟨cs163, hI164, hR165⟩ := RSl.elem_at hr7 hx158
  obtain rfl := hR165
  refine d_v (i := 7) rfl (by kernel_rfl) rfl (r_indexAddr Tryz.underlying51 ty120 (b := _) (o := _) (n := _) (c := _) (i := x147) rfl rfl h159 (RSl.lt hr7 h160)) hH156 ?_
  refine d_v (i := 8) rfl (by kernel_rfl) rfl (r_fieldAddr fld120_0 (b := _) (o := _) rfl) hH156 ?_
  refine d_v (i := 9) rfl (by kernel_rfl) rfl (r_imm ty3 (k := 0) hI164 rfl rfl rfl (v := .int .i64 _) rfl) hH156 ?_
  obtain ⟨hc166, hM⟩ := chk_ok hM
  refine d_v (i := 10) rfl (by kernel_rfl) rfl (r_add (a := _) (b := _) rfl rfl (ok_lo hc166) (ok_hi hc166)) hH156 ?_
  refine d_v (i := 11) rfl (by kernel_rfl) rfl (r_assign (v := .int .i64 _) rfl) hH156 ?_
  refine d_end (by kernel_rfl) ?_
  refine c_nil <| q_norm <| c_region <| wl_h hS146.toHeld (r_move (v := .int .i64 _) rfl) ?_
  obtain ⟨hc167, hM⟩ := chk_ok hM
  refine wl_h hS146.toHeld (r_add (a := _) (b := _) rfl rfl (ok_lo hc167) (ok_hi hc167)) <| wl_h hS146.toHeld (r_assign (v := .int .i64 _) rfl) <| wl_nil <| c_nil <| q_loop ?_
  exact ⟨k_0, Nat.lt_succ_self _, n91 + x157.load, i92 + 1, hM, hS146, rfl, rfl, rfl, rfl⟩
 ·replace hM := bif_f h101 hM
  refine c_exit <| q_loopx <| q_hit <| c_seq <| c_region <| wl_h hS96.toHeld (r_move (v := .int .i64 _) rfl) ?_
  refine wl_h hS96.toHeld (r_assign (v := .int .i64 _) rfl) <| wl_nil <| c_ret <| ret_tmp (t := 4) rfl (v := .int .i64 _) rfl ?_
  obtain rfl := some_eq hM
  have hS168 := hS96.weaken (.cons _ (.refl _))
  exact ⟨rfl, hS168⟩

theorem cg68 {m : Mem} {L : List Atom} {w : World} {cs1 : List Value} {f3 : Fleet} {a13 : Option Addr} {n14 c15 : Nat} {stops17 : List Int} (hS : St w m L) (hx2 : RFleet m cs1 f3) (hr16 : RSl 1 RInt m a13 n14 c15 stops17) {fuel : Nat} {r : Int} (hM : mg68 fuel f3 stops17 = some r) : Calls P0 68 [.agg cs1.toArray, .slice a13 n14 c15].toArray w (Ret fun v w' => v = .int .i64 r ∧ St w' m (L)) := by
 rw [mg68] at hM
 have hk12 := hx2
 obtain ⟨a4, n5, c6, a8, n9, c10, rfl, hr7, hr11⟩ := hx2
 obtain rfl := hr7.1
 obtain rfl := hr11.1
 obtain rfl := hr16.1
 refine enter Tryz.func68 rfl Tryz.ntmps68 (Nat.le_of_ble_eq_true rfl) ?_
 refine c_seq <| c_region <| wl_box hS (v := .agg #[.slice _ _ _, .slice _ _ _, .int .i64 _, .int .i64 _, .int .i64 _]) rfl (cs := [.slice _ _ _, .slice _ _ _, .int .i64 _, .int .i64 _, .int .i64 _]) rfl ?_
 intro b18 w19 hS20
 refine wl_h hS20.toHeld (r_assign (v := .int .i64 _) rfl) <| wl_nil <| c_seq <| c_seq <| c_region <| wl_h hS20.toHeld (r_box ty53 (k := 0) .here rfl rfl rfl (v := .agg #[.slice _ _ _, .slice _ _ _, .int .i64 _, .int .i64 _, .int .i64 _]) rfl) ?_
 obtain ⟨r21, hq22, hM⟩ := bnd_ok hM
 refine wl_call ent19 (vals := [.agg #[.slice _ _ _, .slice _ _ _, .int .i64 _, .int .i64 _, .int .i64 _]]) rfl (cg19 hS20 hk12 hq22) ?_
 rintro _ w24 ⟨rfl, hS25⟩
 refine wl_h hS25.toHeld (r_assign (v := .int .i64 _) rfl) <| wl_nil <| c_seq <| c_region <| wl_h hS25.toHeld (r_move (v := .int .i64 _) rfl) ?_
 refine wl_h hS25.toHeld (r_neq (a := _) (b := _) rfl rfl) <| wl_nil <| c_cond (c := _) rfl (fun h26 => ?_) (fun h26 => ?_)
 ·replace hM := bif_t h26 hM
  refine c_seq <| c_region <| wl_h hS25.toHeld (r_move (v := .int .i64 _) rfl) <| wl_h hS25.toHeld (r_assign (v := .int .i64 _) rfl) <| wl_nil <| c_ret <| ret_tmp (t := 4) rfl (v := .int .i64 _) rfl ?_
  obtain rfl := some_eq hM
  have hS27 := hS25.weaken (.cons _ (.refl _))
  exact ⟨rfl, hS27⟩
 ·replace hM := bif_f h26 hM
  refine c_skip <| c_seq <| c_seq <| c_region <| wl_h hS25.toHeld (r_move (v := .slice _ _ _) rfl) ?_
  refine wl_h hS25.toHeld (r_len Tryz.underlying26 (a := _) (n := _) (c := _) rfl) <| wl_h hS25.toHeld (r_eql (a := _) (b := _) rfl rfl) <| wl_nil <| c_cond (c := _) rfl (fun h28 => ?_) (fun h28 => ?_)
  ·replace hM := bif_t h28 hM
   refine c_seq <| c_region <| wl_h hS25.toHeld (r_assign (v := .int .i64 _) rfl) <| wl_nil <| c_ret <| ret_tmp (t := 4) rfl (v := .int .i64 _) rfl ?_
   obtain rfl := some_eq hM
   have hS29 := hS25.weaken (.cons _ (.refl _))
   exact ⟨rfl, hS29⟩
  ·replace hM := bif_f h28 hM
   refine c_skip <| c_seq <| c_seq <| c_region <| wl_h hS25.toHeld (r_assign (v := .int .i64 _) rfl) ?_
   refine wl_nil <| c_block <| c_loop (fun k f w => ∃ (i123 : Int), mg68_l0 fuel f3 stops17 k i123 = some r ∧ St w m (.box b18 53 [.slice a4 f3.stops.length c6, .slice a8 f3.minutes.length c10, .int .i64 f3.cap, .int .i64 f3.start, .int .i64 f3.back] :: L) ∧ f 1 = .slice a13 stops17.length c15 ∧ f 2 = .pointer (some ⟨b18, 0, none⟩) ∧ f 6 = .int .i64 i123) fuel ⟨0, hM, hS25, rfl, rfl, rfl⟩ ?_
   rintro k_0 f124 w125 ⟨i123, hM, hS127, e128, e129, e130⟩
   refine c_know (t := 1) e128 <| c_know (t := 2) e129 <| c_know (t := 6) e130 ?_
   clear e128 e129 e130
   rcases k_0 with _ | k_0
   · exact none_ne hM
   rw [mg68_l0] at hM
   refine c_seq <| c_seq <| c_region <| wl_h hS127.toHeld (r_move (v := .int .i64 _) rfl) <| wl_h hS127.toHeld (r_move (v := .slice _ _ _) rfl) ?_
   refine wl_h hS127.toHeld (r_len Tryz.underlying26 (a := _) (n := _) (c := _) rfl) <| wl_h hS127.toHeld (r_lss (a := _) (b := _) rfl rfl) <| wl_nil <| c_cond (c := _) rfl (fun h131 => ?_) (fun h131 => ?_)
   ·replace hM := bif_t h131 hM
    refine c_skip <| c_seq <| c_block <| c_seq ?_
    have hH166 := (hS127.weaken (.cons_cons _ (.refl _))).toHeld
    refine c_draw (k := 20) (fun w => Held w m (.box b18 53 [.slice a4 f3.stops.length c6, .slice a8 f3.minutes.length c10, .int .i64 f3.cap, .int .i64 f3.start, .int .i64 f3.back] :: L)) mixed rfl ?_
    replace hH166 := hH166.drew1
    have hS167 := hS127.drew1
    refine d_v (i := 0) rfl (by kernel_rfl) rfl (r_move (v := .slice _ _ _) rfl) hH166 ?_
    refine d_v (i := 1) rfl (by kernel_rfl) rfl (r_move (v := .int .i64 _) rfl) hH166 ?_
    obtain ⟨x168, hx169, h170, h171, hM⟩ := getK_ok hM
    obtain ⟨b172, o173, rfl⟩ := RSl.elem_a hr16 hx169
    obtain ⟨cs174, hI175, hR176⟩ := RSl.elem_at hr16 hx169
    obtain rfl := hR176
    refine d_v (i := 2) rfl (by kernel_rfl) rfl (r_indexAddr Tryz.underlying26 ty3 (b := _) (o := _) (n := _) (c := _) (i := i123) rfl rfl h170 (RSl.lt hr16 h171)) hH166 ?_
    refine d_v (i := 3) rfl (by kernel_rfl) rfl (r_imm ty3 (k := 0) hI175 rfl rfl rfl (v := .int .i64 _) rfl) hH166 ?_
    refine d_v (i := 4) rfl (by kernel_rfl) rfl (r_fieldAddr fld53_0 (b := _) (o := _) rfl) hH166 ?_
    refine d_v (i := 5) rfl (by kernel_rfl) rfl (r_box ty51 (k := 0) .here rfl rfl rfl (v := .slice _ _ _) rfl) hH166 ?_
    refine d_v (i := 6) rfl (by kernel_rfl) rfl (r_len Tryz.underlying51 (a := _) (n := _) (c := _) rfl) hH166 ?_
    obtain ⟨hc177, hM⟩ := chk_ok hM
    refine d_v (i := 7) rfl (by kernel_rfl) rfl (r_sub (a := _) (b := _) rfl rfl (ok_lo hc177) (ok_hi hc177)) hH166 ?_
    refine d_all (rs := [8]) (by kernel_rfl) (by simp) (fun j hj o ho => ?_)
    obtain rfl : j = 8 := by simpa using hj
    cases ho
    obtain ⟨r178, hq179, hM⟩ := bnd_ok hM
    refine wl_call ent64 (vals := [.int .i64 _, .int .i64 _, .int .i64 _]) rfl (cg64 hS167 hq179) ?_
    rintro _ w181 ⟨rfl, hS182⟩
    refine wl_nil ?_
    have hH183 := hS182.toHeld.mono (Mem.le_refl _) (List.Sublist.subset (.cons_cons _ (.refl _)))
    refine ⟨hH183, ?_⟩
    refine d_v (i := 9) rfl (by kernel_rfl) rfl (r_not (b := _) rfl) hH183 ?_
    refine d_v (i := 10) rfl (by kernel_rfl) rfl (r_move (v := .bool _) rfl) hH183 ?_
    refine d_split (t := 31) (c := _) rfl (fun h184 => ?_) (fun h184 => ?_)
    ·replace hM := bif_t h184 hM
     refine d_off (i := 11) rfl (by kernel_rfl) rfl (t := 31) (b := true) rfl rfl rfl hH183 ?_
     refine d_off (i := 12) rfl (by kernel_rfl) rfl (t := 31) (b := true) rfl rfl rfl hH183 ?_
     refine d_off (i := 13) rfl (by kernel_rfl) rfl (t := 31) (b := true) rfl rfl rfl hH183 ?_
     refine d_off (i := 14) rfl (by kernel_rfl) rfl (t := 31) (b := true) rfl rfl rfl hH183 ?_
     refine d_off (i := 15) rfl (by kernel_rfl) rfl (t := 31) (b := true) rfl rfl rfl hH183 ?_
     refine d_off (i := 16) rfl (by kernel_rfl) rfl (t := 31) (b := true) rfl rfl rfl hH183 ?_
     refine d_off (i := 17) rfl (by kernel_rfl) rfl (t := 31) (b := true) rfl rfl rfl hH183 ?_
     refine d_off (i := 18) rfl (by kernel_rfl) rfl (t := 31) (b := true) rfl rfl rfl hH183 ?_
     refine d_v (i := 19) rfl (by kernel_rfl) rfl (r_pick_t rfl (v := .bool _) rfl) hH183 ?_
     refine d_end (by kernel_rfl) ?_
     refine c_true rfl <| c_seq <| c_region <| wl_h hS182.toHeld (r_assign (v := .int .i64 _) rfl) <| wl_nil <| c_ret <| q_retb ?_
     refine q_retl <| q_retb <| ret_tmp (t := 4) rfl (v := .int .i64 _) rfl ?_
     obtain rfl := some_eq hM
     have hS185 := hS182.weaken (.cons _ (.refl _))
     exact ⟨rfl, hS185⟩
    ·replace hM := bif_f h184 hM
     refine d_on (i := 11) rfl (by kernel_rfl) rfl (t := 31) rfl rfl (r_move (v := .slice _ _ _) rfl) hH183 ?_
     refine d_on (i := 12) rfl (by kernel_rfl) rfl (t := 31) rfl rfl (r_move (v := .int .i64 _) rfl) hH183 ?_
     obtain ⟨hc187, hM⟩ := chk_ok hM
     have hr186 := RSl.takeI hr16 hc187
     refine d_on (i := 13) rfl (by kernel_rfl) rfl (t := 31) rfl rfl (r_slice_hi Tryz.underlying26 ty3 (a := _) (n := _) (c := _) (h := i123) rfl rfl (cut_h hc187) (cut_c hc187 hr16.2.2.1)) hH183 ?_
     refine d_on (i := 14) rfl (by kernel_rfl) rfl (t := 31) rfl rfl (r_move (v := .slice _ _ _) rfl) hH183 ?_
     refine d_on (i := 15) rfl (by kernel_rfl) rfl (t := 31) rfl rfl (r_move (v := .int .i64 _) rfl) hH183 ?_
     obtain ⟨x188, hx189, h190, h191, hM⟩ := getK_ok hM
     obtain ⟨cs192, hI193, hR194⟩ := RSl.elem_at hr16 hx189
     obtain rfl := hR194
     refine d_on (i := 16) rfl (by kernel_rfl) rfl (t := 31) rfl rfl (r_indexAddr Tryz.underlying26 ty3 (b := _) (o := _) (n := _) (c := _) (i := i123) rfl rfl h190 (RSl.lt hr16 h191)) hH183 ?_
     refine d_on (i := 17) rfl (by kernel_rfl) rfl (t := 31) rfl rfl (r_imm ty3 (k := 0) hI193 rfl rfl rfl (v := .int .i64 _) rfl) hH183 ?_
     refine d_all (rs := [18]) (by kernel_rfl) (by simp) (fun j hj o ho => ?_)
     obtain rfl : j = 18 := by simpa using hj
     cases ho
     refine wl_on (t := 31) rfl rfl ?_
     obtain ⟨r195, hq196, hM⟩ := bnd_ok hM
     refine wl_call ent88 (vals := [.slice _ _ _, .int .i64 _]) rfl (cg88 hS182 hr186 hq196) ?_
     rintro _ w198 ⟨rfl, hS199⟩
     refine wl_nil ?_
     have hH200 := hS199.toHeld.mono (Mem.le_refl _) (List.Sublist.subset (.cons_cons _ (.refl _)))
     refine ⟨hH200, ?_⟩
     refine d_v (i := 19) rfl (by kernel_rfl) rfl (r_pick_f rfl (v := .bool _) rfl) hH200 ?_
     refine d_end (by kernel_rfl) ?_
     refine c_cond (c := _) rfl (fun h201 => ?_) (fun h201 => ?_)
     ·replace hM := bif_t h201 hM
      refine c_seq <| c_region <| wl_h hS199.toHeld (r_assign (v := .int .i64 _) rfl) <| wl_nil <| c_ret <| q_retb ?_
      refine q_retl <| q_retb <| ret_tmp (t := 4) rfl (v := .int .i64 _) rfl ?_
      obtain rfl := some_eq hM
      have hS202 := hS199.weaken (.cons _ (.refl _))
      exact ⟨rfl, hS202⟩
     ·replace hM := bif_f h201 hM
      refine c_skip <| c_nil <| q_norm <| c_region <| wl_h hS199.toHeld (r_move (v := .int .i64 _) rfl) ?_
      obtain ⟨hc203, hM⟩ := chk_ok hM
      refine wl_h hS199.toHeld (r_add (a := _) (b := _) rfl rfl (ok_lo hc203) (ok_hi hc203)) <| wl_h hS199.toHeld (r_assign (v := .int .i64 _) rfl) <| wl_nil <| c_nil <| q_loop ?_
      exact ⟨k_0, Nat.lt_succ_self _, i123 + 1, hM, hS199, rfl, rfl, rfl⟩
   ·replace hM := bif_f h131 hM
    refine c_exit <| q_loopx <| q_hit <| c_seq <| c_seq ?_
    have hH212 := (hS127.weaken (.cons_cons _ (.refl _))).toHeld
    refine c_draw (k := 6) (fun w => Held w m (.box b18 53 [.slice a4 f3.stops.length c6, .slice a8 f3.minutes.length c10, .int .i64 f3.cap, .int .i64 f3.start, .int .i64 f3.back] :: L)) mixed rfl ?_
    replace hH212 := hH212.drew1
    have hS213 := hS127.drew1
    refine d_v (i := 0) rfl (by kernel_rfl) rfl (r_box ty53 (k := 0) .here rfl rfl rfl (v := .agg #[.slice _ _ _, .slice _ _ _, .int .i64 _, .int .i64 _, .int .i64 _]) rfl) hH212 ?_
    refine d_v (i := 1) rfl (by kernel_rfl) rfl (r_move (v := .slice _ _ _) rfl) hH212 ?_
    refine d_v (i := 3) rfl (by kernel_rfl) rfl (r_fieldAddr fld53_2 (b := _) (o := _) rfl) hH212 ?_
    refine d_v (i := 4) rfl (by kernel_rfl) rfl (r_box ty3 (k := 2) .here rfl rfl rfl (v := .int .i64 _) rfl) hH212 ?_
    refine d_all (rs := [2]) (by kernel_rfl) (by simp) (fun j hj o ho => ?_)
    obtain rfl : j = 2 := by simpa using hj
    cases ho
    obtain ⟨r214, hq215, hM⟩ := bnd_ok hM
    refine wl_call ent109 (vals := [.agg #[.slice _ _ _, .slice _ _ _, .int .i64 _, .int .i64 _, .int .i64 _], .slice _ _ _]) rfl (cg109 hS213 hk12 hr16 hq215) ?_
    rintro _ w217 ⟨rfl, hS218⟩
    refine wl_nil ?_
    have hH219 := hS218.toHeld.mono (Mem.le_refl _) (List.Sublist.subset (.cons_cons _ (.refl _)))
    refine ⟨hH219, ?_⟩
    refine d_v (i := 5) rfl (by kernel_rfl) rfl (r_gtr (a := _) (b := _) rfl rfl) hH219 ?_
    refine d_end (by kernel_rfl) ?_
    refine c_cond (c := _) rfl (fun h220 => ?_) (fun h220 => ?_)
    ·replace hM := bif_t h220 hM
     refine c_seq <| c_region <| wl_h hS218.toHeld (r_assign (v := .int .i64 _) rfl) <| wl_nil <| c_ret <| ret_tmp (t := 4) rfl (v := .int .i64 _) rfl ?_
     obtain rfl := some_eq hM
     have hS221 := hS218.weaken (.cons _ (.refl _))
     exact ⟨rfl, hS221⟩
    ·replace hM := bif_f h220 hM
     refine c_skip <| c_seq <| c_region <| wl_h hS218.toHeld (r_assign (v := .int .i64 _) rfl) <| wl_nil <| c_ret <| ret_tmp (t := 4) rfl (v := .int .i64 _) rfl ?_
     obtain rfl := some_eq hM
     have hS222 := hS218.weaken (.cons _ (.refl _))
     exact ⟨rfl, hS222⟩

theorem cg69 {m : Mem} {L : List Atom} {w : World} {cs1 : List Value} {f3 : Fleet} {a13 : Option Addr} {n14 c15 : Nat} {stops17 : List Int} (hS : St w m L) (hx2 : RFleet m cs1 f3) (hr16 : RSl 1 RInt m a13 n14 c15 stops17) {fuel : Nat} {r : Int} (hM : mg69 fuel f3 stops17 = some r) : Calls P0 69 [.agg cs1.toArray, .slice a13 n14 c15].toArray w (Ret fun v w' => v = .int .i64 r ∧ St w' m (L)) := by
 rw [mg69] at hM
 have hk12 := hx2
 obtain ⟨a4, n5, c6, a8, n9, c10, rfl, hr7, hr11⟩ := hx2
 obtain rfl := hr7.1
 obtain rfl := hr11.1
 obtain rfl := hr16.1
 refine enter Tryz.func69 rfl Tryz.ntmps69 (Nat.le_of_ble_eq_true rfl) ?_
 refine c_seq <| c_region <| wl_box hS (v := .agg #[.slice _ _ _, .slice _ _ _, .int .i64 _, .int .i64 _, .int .i64 _]) rfl (cs := [.slice _ _ _, .slice _ _ _, .int .i64 _, .int .i64 _, .int .i64 _]) rfl ?_
 intro b18 w19 hS20
 refine wl_h hS20.toHeld (r_assign (v := .int .i64 _) rfl) <| wl_nil <| c_seq <| c_region <| wl_h hS20.toHeld (r_fieldAddr fld53_3 (b := _) (o := _) rfl) ?_
 refine wl_h hS20.toHeld (r_box ty3 (k := 3) .here rfl rfl rfl (v := .int .i64 _) rfl) <| wl_h hS20.toHeld (r_assign (v := .int .i64 _) rfl) <| wl_nil <| c_seq <| c_seq <| c_region <| wl_h hS20.toHeld (r_assign (v := .int .i64 _) rfl) ?_
 refine wl_nil <| c_block <| c_loop (fun k f w => ∃ (at122 : Int) (i123 : Int), mg69_l0 fuel f3 stops17 k at122 i123 = some r ∧ St w m (.box b18 53 [.slice a4 f3.stops.length c6, .slice a8 f3.minutes.length c10, .int .i64 f3.cap, .int .i64 f3.start, .int .i64 f3.back] :: L) ∧ f 1 = .slice a13 stops17.length c15 ∧ f 2 = .pointer (some ⟨b18, 0, none⟩) ∧ f 5 = .int .i64 at122 ∧ f 6 = .int .i64 i123) fuel ⟨f3.start, 0, hM, hS20, rfl, rfl, rfl, rfl⟩ ?_
 rintro k_0 f124 w125 ⟨at122, i123, hM, hS127, e128, e129, e130, e131⟩
 refine c_know (t := 1) e128 <| c_know (t := 2) e129 <| c_know (t := 5) e130 <| c_know (t := 6) e131 ?_
 clear e128 e129 e130 e131
 rcases k_0 with _ | k_0
 · exact none_ne hM
 rw [mg69_l0] at hM
 refine c_seq <| c_seq <| c_region <| wl_h hS127.toHeld (r_move (v := .int .i64 _) rfl) <| wl_h hS127.toHeld (r_move (v := .slice _ _ _) rfl) ?_
 refine wl_h hS127.toHeld (r_len Tryz.underlying26 (a := _) (n := _) (c := _) rfl) <| wl_h hS127.toHeld (r_lss (a := _) (b := _) rfl rfl) <| wl_nil <| c_cond (c := _) rfl (fun h132 => ?_) (fun h132 => ?_)
 ·replace hM := bif_t h132 hM
  refine c_skip <| c_seq <| c_block <| c_seq ?_
  have hH174 := (hS127.weaken (.cons _ (.refl _))).toHeld
  refine c_draw (k := 11) (fun w => Held w m (L)) mixed rfl ?_
  replace hH174 := hH174.drew1
  have hS175 := hS127.drew1
  refine d_v (i := 0) rfl (by kernel_rfl) rfl (r_fieldAddr fld53_0 (b := _) (o := _) rfl) hH174 ?_
  refine d_v (i := 2) rfl (by kernel_rfl) rfl (r_move (v := .slice _ _ _) rfl) hH174 ?_
  refine d_v (i := 3) rfl (by kernel_rfl) rfl (r_move (v := .int .i64 _) rfl) hH174 ?_
  obtain ⟨x176, hx177, h178, h179, hM⟩ := getK_ok hM
  obtain ⟨b180, o181, rfl⟩ := RSl.elem_a hr16 hx177
  obtain ⟨cs182, hI183, hR184⟩ := RSl.elem_at hr16 hx177
  obtain rfl := hR184
  refine d_v (i := 4) rfl (by kernel_rfl) rfl (r_indexAddr Tryz.underlying26 ty3 (b := _) (o := _) (n := _) (c := _) (i := i123) rfl rfl h178 (RSl.lt hr16 h179)) hH174 ?_
  refine d_v (i := 5) rfl (by kernel_rfl) rfl (r_imm ty3 (k := 0) hI183 rfl rfl rfl (v := .int .i64 _) rfl) hH174 ?_
  refine d_v (i := 9) rfl (by kernel_rfl) rfl (r_move (v := .int .i64 _) rfl) hH174 ?_
  refine d_all (rs := [1]) (by kernel_rfl) (by simp) (fun j hj o ho => ?_)
  obtain rfl : j = 1 := by simpa using hj
  cases ho
  refine wl_h hS175.toHeld (r_box ty51 (k := 0) .here rfl rfl rfl (v := .slice _ _ _) rfl) <| wl_nil ?_
  have hH185 := hS175.toHeld.mono (Mem.le_refl _) (List.Sublist.subset (.cons _ (.refl _)))
  refine ⟨hH185, ?_⟩
  obtain ⟨x186, hx187, h188, h189, hM⟩ := getK_ok hM
  obtain ⟨b190, o191, rfl⟩ := RSl.elem_a hr7 hx187
  obtain ⟨cs192, hI193, hR194⟩ := RSl.elem_at hr7 hx187
  obtain rfl := hR194
  refine d_v (i := 6) rfl (by kernel_rfl) rfl (r_indexAddr Tryz.underlying51 ty120 (b := _) (o := _) (n := _) (c := _) (i := x176) rfl rfl h188 (RSl.lt hr7 h189)) hH185 ?_
  refine d_v (i := 7) rfl (by kernel_rfl) rfl (r_fieldAddr fld120_1 (b := _) (o := _) rfl) hH185 ?_
  refine d_v (i := 8) rfl (by kernel_rfl) rfl (r_imm ty3 (k := 1) hI193 rfl rfl rfl (v := .int .i64 _) rfl) hH185 ?_
  refine d_v (i := 10) rfl (by kernel_rfl) rfl (r_gtr (a := _) (b := _) rfl rfl) hH185 ?_
  refine d_end (by kernel_rfl) ?_
  refine c_cond (c := _) rfl (fun h195 => ?_) (fun h195 => ?_)
  ·replace hM := bif_t h195 hM
   have hH212 := (hS175.weaken (.cons_cons _ (.refl _))).toHeld
   refine c_draw (k := 10) (fun w => Held w m (.box b18 53 [.slice (some ⟨b190, o191, none⟩) f3.stops.length c6, .slice a8 f3.minutes.length c10, .int .i64 f3.cap, .int .i64 f3.start, .int .i64 f3.back] :: L)) mixed rfl ?_
   replace hH212 := hH212.drew1
   have hS213 := hS175.drew1
   refine d_v (i := 0) rfl (by kernel_rfl) rfl (r_fieldAddr fld53_0 (b := _) (o := _) rfl) hH212 ?_
   refine d_v (i := 1) rfl (by kernel_rfl) rfl (r_box ty51 (k := 0) .here rfl rfl rfl (v := .slice _ _ _) rfl) hH212 ?_
   refine d_v (i := 2) rfl (by kernel_rfl) rfl (r_move (v := .slice _ _ _) rfl) hH212 ?_
   refine d_v (i := 3) rfl (by kernel_rfl) rfl (r_move (v := .int .i64 _) rfl) hH212 ?_
   obtain ⟨x214, hx215, h216, h217, hM⟩ := getK_ok hM
   obtain ⟨cs218, hI219, hR220⟩ := RSl.elem_at hr16 hx215
   obtain rfl := hR220
   refine d_v (i := 4) rfl (by kernel_rfl) rfl (r_indexAddr Tryz.underlying26 ty3 (b := _) (o := _) (n := _) (c := _) (i := i123) rfl rfl h216 (RSl.lt hr16 h217)) hH212 ?_
   refine d_v (i := 5) rfl (by kernel_rfl) rfl (r_imm ty3 (k := 0) hI219 rfl rfl rfl (v := .int .i64 _) rfl) hH212 ?_
   obtain ⟨x221, hx222, h223, h224, hM⟩ := getK_ok hM
   obtain ⟨cs225, hI226, hR227⟩ := RSl.elem_at hr7 hx222
   obtain rfl := hR227
   refine d_v (i := 6) rfl (by kernel_rfl) rfl (r_indexAddr Tryz.underlying51 ty120 (b := _) (o := _) (n := _) (c := _) (i := x214) rfl rfl h223 (RSl.lt hr7 h224)) hH212 ?_
   refine d_v (i := 7) rfl (by kernel_rfl) rfl (r_fieldAddr fld120_1 (b := _) (o := _) rfl) hH212 ?_
   refine d_v (i := 8) rfl (by kernel_rfl) rfl (r_imm ty3 (k := 1) hI226 rfl rfl rfl (v := .int .i64 _) rfl) hH212 ?_
   refine d_v (i := 9) rfl (by kernel_rfl) rfl (r_assign (v := .int .i64 _) rfl) hH212 ?_
   refine d_end (by kernel_rfl) ?_
   refine c_nil <| q_norm <| c_region <| wl_h hS213.toHeld (r_move (v := .int .i64 _) rfl) ?_
   obtain ⟨hc228, hM⟩ := chk_ok hM
   refine wl_h hS213.toHeld (r_add (a := _) (b := _) rfl rfl (ok_lo hc228) (ok_hi hc228)) <| wl_h hS213.toHeld (r_assign (v := .int .i64 _) rfl) <| wl_nil <| c_nil <| q_loop ?_
   exact ⟨k_0, Nat.lt_succ_self _, x221.ready, i123 + 1, hM, hS213, rfl, rfl, rfl, rfl⟩
  ·replace hM := bif_f h195 hM
   refine c_skip <| c_nil <| q_norm <| c_region <| wl_h hS175.toHeld (r_move (v := .int .i64 _) rfl) ?_
   obtain ⟨hc229, hM⟩ := chk_ok hM
   refine wl_h hS175.toHeld (r_add (a := _) (b := _) rfl rfl (ok_lo hc229) (ok_hi hc229)) <| wl_h hS175.toHeld (r_assign (v := .int .i64 _) rfl) <| wl_nil <| c_nil <| q_loop ?_
   exact ⟨k_0, Nat.lt_succ_self _, at122, i123 + 1, hM, hS175, rfl, rfl, rfl, rfl⟩
 ·replace hM := bif_f h132 hM
  refine c_exit <| q_loopx <| q_hit <| c_seq <| c_region <| wl_h hS127.toHeld (r_move (v := .int .i64 _) rfl) ?_
  refine wl_h hS127.toHeld (r_assign (v := .int .i64 _) rfl) <| wl_nil <| c_ret <| ret_tmp (t := 4) rfl (v := .int .i64 _) rfl ?_
  obtain rfl := some_eq hM
  have hS230 := hS127.weaken (.cons _ (.refl _))
  exact ⟨rfl, hS230⟩

theorem cg70 {m : Mem} {L : List Atom} {w : World} {cs1 : List Value} {f3 : Fleet} {a13 : Option Addr} {n14 c15 : Nat} {stops17 : List Int} {at18 : Int} (hS : St w m L) (hx2 : RFleet m cs1 f3) (hr16 : RSl 1 RInt m a13 n14 c15 stops17) {fuel : Nat} {r : (List Int) × Int × Bool} (hM : mg70 fuel f3 stops17 at18 = some r) : Calls P0 70 [.agg cs1.toArray, .slice a13 n14 c15, .int .i64 at18].toArray w (Ret fun v w' => ∃ (a0 : Option Addr) (n0 : Nat) (c0 : Nat) (cs0 : List Value), v = .tuple #[.slice a0 n0 c0, .int .i64 r.2.1, .bool r.2.2] ∧ n0 = r.1.length ∧ RCs 1 RInt m cs0 r.1 ∧ St w' m (.row (.slice a0 n0 c0) 3 1 cs0 :: L)) := by
 rw [mg70] at hM
 have hk12 := hx2
 obtain ⟨a4, n5, c6, a8, n9, c10, rfl, hr7, hr11⟩ := hx2
 obtain rfl := hr7.1
 obtain rfl := hr11.1
 obtain rfl := hr16.1
 refine enter Tryz.func70 rfl Tryz.ntmps70 (Nat.le_of_ble_eq_true rfl) ?_
 refine c_seq <| c_region <| wl_box hS (v := .agg #[.slice _ _ _, .slice _ _ _, .int .i64 _, .int .i64 _, .int .i64 _]) rfl (cs := [.slice _ _ _, .slice _ _ _, .int .i64 _, .int .i64 _, .int .i64 _]) rfl ?_
 intro b19 w20 hS21
 refine wl_h hS21.toHeld (r_assign (v := .slice _ _ _) rfl) <| wl_h hS21.toHeld (r_assign (v := .int .i64 _) rfl) <| wl_h hS21.toHeld (r_assign (v := .bool _) rfl) <| wl_nil <| c_seq <| c_region <| wl_h hS21.toHeld (r_assign (v := .slice _ _ _) rfl) ?_
 refine wl_nil <| c_seq <| c_region <| wl_h hS21.toHeld (r_assign (v := .int .i64 _) rfl) <| wl_nil <| c_seq <| c_seq <| c_region <| wl_h hS21.toHeld (r_assign (v := .int .i64 _) rfl) ?_
 refine wl_nil <| c_block ?_
 have hS873 := hS21.nilRow 3 1
 have hrc874 : RCs 1 RInt m [] ([] : List Int) := RCs.nil
 refine c_loop (fun k f w => ∃ (at875 : Int) (place876 : Int) (i877 : Int) (l878 : List Int) (a879 : Option Addr) (n880 : Nat) (c881 : Nat) (cs882 : List Value), mg70_l0 fuel f3 stops17 k at875 place876 i877 l878 = some r ∧ n880 = l878.length ∧ RCs 1 RInt m cs882 l878 ∧ St w m (.row (.slice a879 n880 c881) 3 1 cs882 :: .box b19 53 [.slice a4 f3.stops.length c6, .slice a8 f3.minutes.length c10, .int .i64 f3.cap, .int .i64 f3.start, .int .i64 f3.back] :: L) ∧ f 1 = .slice a13 stops17.length c15 ∧ f 2 = .int .i64 at875 ∧ f 3 = .pointer (some ⟨b19, 0, none⟩) ∧ f 9 = .slice a879 n880 c881 ∧ f 10 = .int .i64 place876 ∧ f 11 = .int .i64 i877) fuel ⟨at18, 0, 0, ([] : List Int), none, 0, 0, [], hM, row_n (hS873.toHeld.own .here) hrc874 (by decide), hrc874, hS873, rfl, rfl, rfl, rfl, rfl, rfl⟩ ?_
 rintro k_0 f885 w886 ⟨at875, place876, i877, l878, a879, n880, c881, cs882, hM, hn883, hrc884, hS888, e889, e890, e891, e892, e893, e894⟩
 subst hn883
 refine c_know (t := 1) e889 <| c_know (t := 2) e890 <| c_know (t := 3) e891 <| c_know (t := 9) e892 <| c_know (t := 10) e893 ?_
 refine c_know (t := 11) e894 ?_
 clear e889 e890 e891 e892 e893 e894
 rcases k_0 with _ | k_0
 · exact none_ne hM
 rw [mg70_l0] at hM
 refine c_seq <| c_seq <| c_region <| wl_h hS888.toHeld (r_move (v := .int .i64 _) rfl) <| wl_h hS888.toHeld (r_move (v := .slice _ _ _) rfl) ?_
 refine wl_h hS888.toHeld (r_len Tryz.underlying26 (a := _) (n := _) (c := _) rfl) <| wl_h hS888.toHeld (r_lss (a := _) (b := _) rfl rfl) <| wl_nil <| c_cond (c := _) rfl (fun h895 => ?_) (fun h895 => ?_)
 ·replace hM := bif_t h895 hM
  refine c_skip <| c_seq <| c_block <| c_seq ?_
  obtain ⟨x925, hx926, h927, h928, hM⟩ := getK_ok hM
  obtain ⟨x935, hx936, h937, h938, hM⟩ := getK_ok hM
  have hH952 := (hS888.weaken (.cons_cons _ (.cons _ (.refl _)))).toHeld
  refine c_drawJ (k := 10) (fun f w => ∃ (b951 : Nat), St w m (.box b951 120 [.int .i64 x935.load, .int .i64 x935.ready, .int .i64 x935.opn, .int .i64 x935.close, .int .i64 x935.serve] :: .row (.slice a879 l878.length c881) 3 1 cs882 :: .box b19 53 [.slice a4 f3.stops.length c6, .slice a8 f3.minutes.length c10, .int .i64 f3.cap, .int .i64 f3.start, .int .i64 f3.back] :: L) ∧ f 1 = .slice a13 stops17.length c15 ∧ f 2 = .int .i64 at875 ∧ f 3 = .pointer (some ⟨b19, 0, none⟩) ∧ f 9 = .slice a879 l878.length c881 ∧ f 10 = .int .i64 place876 ∧ f 11 = .int .i64 i877 ∧ f 12 = .pointer (some ⟨b951, 0, none⟩)) (fun w => Held w m (.row (.slice a879 l878.length c881) 3 1 cs882 :: L)) mixed rfl ?_ ?_
  ·replace hH952 := hH952.drew1
   have hS953 := hS888.drew1
   refine d_v (i := 0) rfl (by kernel_rfl) rfl (r_fieldAddr fld53_0 (b := _) (o := _) rfl) hH952 ?_
   refine d_v (i := 2) rfl (by kernel_rfl) rfl (r_move (v := .slice _ _ _) rfl) hH952 ?_
   refine d_v (i := 3) rfl (by kernel_rfl) rfl (r_move (v := .int .i64 _) rfl) hH952 ?_
   obtain ⟨b954, o955, rfl⟩ := RSl.elem_a hr16 hx926
   obtain ⟨cs956, hI957, hR958⟩ := RSl.elem_at hr16 hx926
   obtain rfl := hR958
   refine d_v (i := 4) rfl (by kernel_rfl) rfl (r_indexAddr Tryz.underlying26 ty3 (b := _) (o := _) (n := _) (c := _) (i := i877) rfl rfl h927 (RSl.lt hr16 h928)) hH952 ?_
   refine d_v (i := 5) rfl (by kernel_rfl) rfl (r_imm ty3 (k := 0) hI957 rfl rfl rfl (v := .int .i64 _) rfl) hH952 ?_
   refine d_all (rs := [1, 8]) (by kernel_rfl) (by simp) (fun j hj o ho => ?_)
   simp only [List.mem_cons, List.not_mem_nil, or_false] at hj
   rcases hj with rfl | rfl
   ·cases ho
    refine wl_h hS953.toHeld (r_box ty51 (k := 0) (.there .here) rfl rfl rfl (v := .slice _ _ _) rfl) <| wl_nil ?_
    have hH959 := hS953.toHeld.mono (Mem.le_refl _) (List.Sublist.subset (.cons_cons _ (.cons _ (.refl _))))
    refine ⟨hH959, ?_⟩
    obtain ⟨b960, o961, rfl⟩ := RSl.elem_a hr7 hx936
    obtain ⟨cs962, hI963, hR964⟩ := RSl.elem_at hr7 hx936
    obtain rfl := hR964
    refine d_v (i := 6) rfl (by kernel_rfl) rfl (r_indexAddr Tryz.underlying51 ty120 (b := _) (o := _) (n := _) (c := _) (i := x925) rfl rfl h937 (RSl.lt hr7 h938)) hH959 ?_
    refine d_v (i := 7) rfl (by kernel_rfl) rfl (r_imm ty120 (k := 0) hI963 rfl rfl rfl (v := .agg #[.int .i64 _, .int .i64 _, .int .i64 _, .int .i64 _, .int .i64 _]) rfl) hH959 ?_
    refine d_all (rs := [8]) (by kernel_rfl) (by simp) (fun j hj o ho => ?_)
    obtain rfl : j = 8 := by simpa using hj
    cases ho
    refine wl_alloc ty120 rfl hS953 ?_
    intro b965 w966 hS967
    refine wl_nil ?_
    have hH968 := hS967.toHeld.mono (Mem.le_refl _) (List.Sublist.subset (.cons _ (.cons_cons _ (.cons _ (.refl _)))))
    refine ⟨hH968, ?_⟩
    refine d_all (rs := [9]) (by kernel_rfl) (by simp) (fun j hj o ho => ?_)
    obtain rfl : j = 9 := by simpa using hj
    cases ho
    refine wl_store_box ty120 hS967 rfl (v := .agg #[.int .i64 _, .int .i64 _, .int .i64 _, .int .i64 _, .int .i64 _]) rfl (vs := [.int .i64 _, .int .i64 _, .int .i64 _, .int .i64 _, .int .i64 _]) rfl rfl rfl .here (cs' := [.int .i64 _, .int .i64 _, .int .i64 _, .int .i64 _, .int .i64 _]) rfl rfl ?_
    intro w969 hS970
    refine wl_nil ?_
    have hH971 := hS970.toHeld.mono (Mem.le_refl _) (List.Sublist.subset (.cons _ (.cons_cons _ (.cons _ (.refl _)))))
    refine ⟨hH971, ?_⟩
    refine d_end (by kernel_rfl) ?_
    exact ⟨_, hS970, rfl, rfl, rfl, rfl, rfl, rfl, rfl⟩
   ·cases ho
    refine wl_alloc ty120 rfl hS953 ?_
    intro b972 w973 hS974
    refine wl_nil ?_
    have hH975 := hS974.toHeld.mono (Mem.le_refl _) (List.Sublist.subset (.cons _ (.cons_cons _ (.cons _ (.refl _)))))
    refine ⟨hH975, ?_⟩
    refine d_all (rs := [1]) (by kernel_rfl) (by simp) (fun j hj o ho => ?_)
    obtain rfl : j = 1 := by simpa using hj
    cases ho
    refine wl_h hS974.toHeld (r_box ty51 (k := 0) (.there (.there .here)) rfl rfl rfl (v := .slice _ _ _) rfl) <| wl_nil ?_
    have hH976 := hS974.toHeld.mono (Mem.le_refl _) (List.Sublist.subset (.cons _ (.cons_cons _ (.cons _ (.refl _)))))
    refine ⟨hH976, ?_⟩
    obtain ⟨b977, o978, rfl⟩ := RSl.elem_a hr7 hx936
    obtain ⟨cs979, hI980, hR981⟩ := RSl.elem_at hr7 hx936
    obtain rfl := hR981
    refine d_v (i := 6) rfl (by kernel_rfl) rfl (r_indexAddr Tryz.underlying51 ty120 (b := _) (o := _) (n := _) (c := _) (i := x925) rfl rfl h937 (RSl.lt hr7 h938)) hH976 ?_
    refine d_v (i := 7) rfl (by kernel_rfl) rfl (r_imm ty120 (k := 0) hI980 rfl rfl rfl (v := .agg #[.int .i64 _, .int .i64 _, .int .i64 _, .int .i64 _, .int .i64 _]) rfl) hH976 ?_
    refine d_all (rs := [9]) (by kernel_rfl) (by simp) (fun j hj o ho => ?_)
    obtain rfl : j = 9 := by simpa using hj
    cases ho
    refine wl_store_box ty120 hS974 rfl (v := .agg #[.int .i64 _, .int .i64 _, .int .i64 _, .int .i64 _, .int .i64 _]) rfl (vs := [.int .i64 _, .int .i64 _, .int .i64 _, .int .i64 _, .int .i64 _]) rfl rfl rfl .here (cs' := [.int .i64 _, .int .i64 _, .int .i64 _, .int .i64 _, .int .i64 _]) rfl rfl ?_
    intro w982 hS983
    refine wl_nil ?_
    have hH984 := hS983.toHeld.mono (Mem.le_refl _) (List.Sublist.subset (.cons _ (.cons_cons _ (.cons _ (.refl _)))))
    refine ⟨hH984, ?_⟩
    refine d_end (by kernel_rfl) ?_
    exact ⟨_, hS983, rfl, rfl, rfl, rfl, rfl, rfl, rfl⟩
  ·rintro f993 w994 ⟨b951, hS985, e986, e987, e988, e989, e990, e991, e992⟩
   refine c_know (t := 1) e986 <| c_know (t := 2) e987 <| c_know (t := 3) e988 <| c_know (t := 9) e989 <| c_know (t := 10) e990 ?_
   refine c_know (t := 11) e991 <| c_know (t := 12) e992 ?_
   clear e986 e987 e988 e989 e990 e991 e992
   refine c_seq ?_
   have hH1066 := (hS985.weaken (.cons_cons _ (.cons_cons _ (.cons _ (.refl _))))).toHeld
   refine c_draw (k := 15) (fun w => Held w m (.box b951 120 [.int .i64 x935.load, .int .i64 x935.ready, .int .i64 x935.opn, .int .i64 x935.close, .int .i64 x935.serve] :: .row (.slice a879 l878.length c881) 3 1 cs882 :: L)) mixed rfl ?_
   replace hH1066 := hH1066.drew1
   have hS1067 := hS985.drew1
   refine d_v (i := 0) rfl (by kernel_rfl) rfl (r_move (v := .int .i64 _) rfl) hH1066 ?_
   refine d_v (i := 1) rfl (by kernel_rfl) rfl (r_fieldAddr fld53_1 (b := _) (o := _) rfl) hH1066 ?_
   refine d_v (i := 3) rfl (by kernel_rfl) rfl (r_move (v := .int .i64 _) rfl) hH1066 ?_
   refine d_v (i := 6) rfl (by kernel_rfl) rfl (r_move (v := .slice _ _ _) rfl) hH1066 ?_
   refine d_v (i := 7) rfl (by kernel_rfl) rfl (r_move (v := .int .i64 _) rfl) hH1066 ?_
   obtain ⟨x1068, hx1069, h1070, h1071, hM⟩ := getK_ok hM
   obtain ⟨b1072, o1073, rfl⟩ := RSl.elem_a hr16 hx1069
   obtain ⟨cs1074, hI1075, hR1076⟩ := RSl.elem_at hr16 hx1069
   obtain rfl := hR1076
   refine d_v (i := 8) rfl (by kernel_rfl) rfl (r_indexAddr Tryz.underlying26 ty3 (b := _) (o := _) (n := _) (c := _) (i := i877) rfl rfl h1070 (RSl.lt hr16 h1071)) hH1066 ?_
   refine d_v (i := 9) rfl (by kernel_rfl) rfl (r_imm ty3 (k := 0) hI1075 rfl rfl rfl (v := .int .i64 _) rfl) hH1066 ?_
   obtain ⟨hc1077, hM⟩ := chk_ok hM
   refine d_v (i := 10) rfl (by kernel_rfl) rfl (r_add (a := _) (b := _) rfl rfl (ok_lo hc1077) (ok_hi hc1077)) hH1066 ?_
   refine d_all (rs := [2]) (by kernel_rfl) (by simp) (fun j hj o ho => ?_)
   obtain rfl : j = 2 := by simpa using hj
   cases ho
   refine wl_h hS1067.toHeld (r_box ty23 (k := 1) (.there (.there .here)) rfl rfl rfl (v := .slice _ _ _) rfl) <| wl_nil ?_
   have hH1078 := hS1067.toHeld.mono (Mem.le_refl _) (List.Sublist.subset (.cons_cons _ (.cons_cons _ (.cons _ (.refl _)))))
   refine ⟨hH1078, ?_⟩
   obtain ⟨x1079, hx1080, h1081, h1082, hM⟩ := getK_ok hM
   obtain ⟨b1083, o1084, rfl⟩ := RSl.elem_a hr11 hx1080
   obtain ⟨cs1085, hI1086, hR1087⟩ := RSl.elem_at hr11 hx1080
   obtain ⟨a1088, n1089, c1090, rfl, hr1091⟩ := hR1087
   obtain rfl := hr1091.1
   refine d_v (i := 4) rfl (by kernel_rfl) rfl (r_indexAddr Tryz.underlying23 ty26 (b := _) (o := _) (n := _) (c := _) (i := place876) rfl rfl h1081 (RSl.lt hr11 h1082)) hH1078 ?_
   refine d_v (i := 5) rfl (by kernel_rfl) rfl (r_imm ty26 (k := 0) hI1086 rfl rfl rfl (v := .slice _ _ _) rfl) hH1078 ?_
   obtain ⟨x1092, hx1093, h1094, h1095, hM⟩ := getK_ok hM
   obtain ⟨b1096, o1097, rfl⟩ := RSl.elem_a hr1091 hx1093
   obtain ⟨cs1098, hI1099, hR1100⟩ := RSl.elem_at hr1091 hx1093
   obtain rfl := hR1100
   refine d_v (i := 11) rfl (by kernel_rfl) rfl (r_indexAddr Tryz.underlying26 ty3 (b := _) (o := _) (n := _) (c := _) (i := x1068 + 1) rfl rfl h1094 (RSl.lt hr1091 h1095)) hH1078 ?_
   refine d_v (i := 12) rfl (by kernel_rfl) rfl (r_imm ty3 (k := 0) hI1099 rfl rfl rfl (v := .int .i64 _) rfl) hH1078 ?_
   obtain ⟨hc1101, hM⟩ := chk_ok hM
   refine d_v (i := 13) rfl (by kernel_rfl) rfl (r_add (a := _) (b := _) rfl rfl (ok_lo hc1101) (ok_hi hc1101)) hH1078 ?_
   refine d_v (i := 14) rfl (by kernel_rfl) rfl (r_assign (v := .int .i64 _) rfl) hH1078 ?_
   refine d_end (by kernel_rfl) ?_
   refine c_seq <| c_region <| wl_h hS1067.toHeld (r_move (v := .slice _ _ _) rfl) <| wl_h hS1067.toHeld (r_move (v := .int .i64 _) rfl) <| wl_buildSlice Tryz.underlying26 ty3 rfl (by decide) (by decide) hS1067 (ps := [(0, [.int .i64 _])]) rfl rfl (cs := [.int .i64 _]) rfl rfl (by decide) ?_
   intro b1103 w1104 hS1105
   have hrc1106 : RCs 1 RInt m [.int .i64 (at875 + x1092)] ([at875 + x1092] : List Int) := (RCs.cons (d := [.int .i64 (at875 + x1092)]) rfl rfl RCs.nil)
   obtain ⟨hc1107, hM⟩ := chk_ok hM
   refine wl_append_src Tryz.underlying26 ty3 rfl (by decide) hS1105 (a := _) (nn := _) (c := _) rfl (a2 := _) (k2 := _) (c2 := _) rfl (.there (.there .here)) (row_src (hS1105.toHeld.own .here) (RCs.allOne RInt.one (by decide) hrc1106)) (lim_b hc1107 rfl) (lim_a hc1107) ?_
   intro a1108 c1109 w1110 hS1111
   have hrc1113 := RCs.append hrc884 hrc1106
   generalize cs882 ++ [.int .i64 (at875 + x1092)] = cs1114 at hS1111 hrc1113
   have hS1115 := hS1111.weaken (.cons_cons _ (.cons _ (.cons_cons _ (.cons_cons _ (.refl _)))))
   refine wl_h hS1115.toHeld (r_assign (v := .slice _ _ _) rfl) <| wl_nil <| c_seq <| c_seq <| c_region <| wl_h hS1115.toHeld (r_move (v := .int .i64 _) rfl) ?_
   refine wl_h hS1115.toHeld (r_fieldAddr fld120_3 (b := _) (o := _) rfl) <| wl_h hS1115.toHeld (r_box ty3 (k := 3) (.there .here) rfl rfl rfl (v := .int .i64 _) rfl) <| wl_h hS1115.toHeld (r_gtr (a := _) (b := _) rfl rfl) <| wl_nil <| c_cond (c := _) rfl (fun h1116 => ?_) (fun h1116 => ?_)
   ·replace hM := bif_t h1116 hM
    refine c_seq <| c_region <| wl_h hS1115.toHeld (r_assign (v := .slice _ _ _) rfl) <| wl_h hS1115.toHeld (r_assign (v := .int .i64 _) rfl) <| wl_h hS1115.toHeld (r_assign (v := .bool _) rfl) ?_
    refine wl_nil <| c_ret <| q_retb <| q_retl <| q_retb ?_
    refine ret_many rfl (.tmp (v := .slice _ _ _) rfl (.tmp (v := .int .i64 _) rfl (.tmp (v := .bool _) rfl .nil))) ?_
    have hS1117 := hS1115.nilRow 3 1
    have hrc1119 : RCs 1 RInt m [] ([] : List Int) := RCs.nil
    obtain rfl := some_eq hM
    have hS1120 := hS1117.weaken (.cons_cons _ (.cons _ (.cons _ (.cons _ (.refl _)))))
    exact ⟨none, 0, 0, [], rfl, row_n (hS1120.toHeld.own .here) hrc1119 (by decide), hrc1119, hS1120⟩
   ·replace hM := bif_f h1116 hM
    refine c_skip <| c_seq <| c_seq <| c_region <| wl_h hS1115.toHeld (r_move (v := .int .i64 _) rfl) ?_
    refine wl_h hS1115.toHeld (r_fieldAddr fld120_2 (b := _) (o := _) rfl) <| wl_h hS1115.toHeld (r_box ty3 (k := 2) (.there .here) rfl rfl rfl (v := .int .i64 _) rfl) <| wl_h hS1115.toHeld (r_lss (a := _) (b := _) rfl rfl) <| wl_nil <| c_cond (c := _) rfl (fun h1121 => ?_) (fun h1121 => ?_)
    ·replace hM := bif_t h1121 hM
     refine c_region <| wl_h hS1115.toHeld (r_fieldAddr fld120_2 (b := _) (o := _) rfl) <| wl_h hS1115.toHeld (r_box ty3 (k := 2) (.there .here) rfl rfl rfl (v := .int .i64 _) rfl) <| wl_h hS1115.toHeld (r_assign (v := .int .i64 _) rfl) <| wl_nil <| c_seq <| c_region <| wl_h hS1115.toHeld (r_move (v := .int .i64 _) rfl) ?_
     refine wl_h hS1115.toHeld (r_fieldAddr fld120_4 (b := _) (o := _) rfl) <| wl_h hS1115.toHeld (r_box ty3 (k := 4) (.there .here) rfl rfl rfl (v := .int .i64 _) rfl) ?_
     obtain ⟨hc1122, hM⟩ := chk_ok hM
     refine wl_h hS1115.toHeld (r_add (a := _) (b := _) rfl rfl (ok_lo hc1122) (ok_hi hc1122)) <| wl_h hS1115.toHeld (r_assign (v := .int .i64 _) rfl) <| wl_nil <| c_region <| wl_h hS1115.toHeld (r_move (v := .slice _ _ _) rfl) ?_
     refine wl_h hS1115.toHeld (r_move (v := .int .i64 _) rfl) ?_
     obtain ⟨x1123, hx1124, h1125, h1126, hM⟩ := getK_ok hM
     obtain ⟨cs1127, hI1128, hR1129⟩ := RSl.elem_at hr16 hx1124
     obtain rfl := hR1129
     refine wl_h hS1115.toHeld (r_indexAddr Tryz.underlying26 ty3 (b := _) (o := _) (n := _) (c := _) (i := i877) rfl rfl h1125 (RSl.lt hr16 h1126)) <| wl_h hS1115.toHeld (r_imm ty3 (k := 0) hI1128 rfl rfl rfl (v := .int .i64 _) rfl) ?_
     obtain ⟨hc1130, hM⟩ := chk_ok hM
     refine wl_h hS1115.toHeld (r_add (a := _) (b := _) rfl rfl (ok_lo hc1130) (ok_hi hc1130)) <| wl_h hS1115.toHeld (r_assign (v := .int .i64 _) rfl) <| wl_nil <| c_nil <| q_norm <| c_region <| wl_h hS1115.toHeld (r_move (v := .int .i64 _) rfl) ?_
     obtain ⟨hc1131, hM⟩ := chk_ok hM
     refine wl_h hS1115.toHeld (r_add (a := _) (b := _) rfl rfl (ok_lo hc1131) (ok_hi hc1131)) <| wl_h hS1115.toHeld (r_assign (v := .int .i64 _) rfl) <| wl_nil <| c_nil <| q_loop ?_
     have hS1132 := hS1115.weaken (.cons_cons _ (.cons _ (.cons_cons _ (.refl _))))
     exact ⟨k_0, Nat.lt_succ_self _, x935.opn + x935.serve, x1123 + 1, i877 + 1, (l878 ++ [at875 + x1092]), a1108, (l878.length + 1), c1109, cs1114, hM, row_n (hS1132.toHeld.own .here) hrc1113 (by decide), hrc1113, hS1132, rfl, rfl, rfl, rfl, rfl, rfl⟩
    ·replace hM := bif_f h1121 hM
     refine c_skip <| c_seq <| c_region <| wl_h hS1115.toHeld (r_move (v := .int .i64 _) rfl) <| wl_h hS1115.toHeld (r_fieldAddr fld120_4 (b := _) (o := _) rfl) ?_
     refine wl_h hS1115.toHeld (r_box ty3 (k := 4) (.there .here) rfl rfl rfl (v := .int .i64 _) rfl) ?_
     obtain ⟨hc1133, hM⟩ := chk_ok hM
     refine wl_h hS1115.toHeld (r_add (a := _) (b := _) rfl rfl (ok_lo hc1133) (ok_hi hc1133)) <| wl_h hS1115.toHeld (r_assign (v := .int .i64 _) rfl) <| wl_nil <| c_region <| wl_h hS1115.toHeld (r_move (v := .slice _ _ _) rfl) ?_
     refine wl_h hS1115.toHeld (r_move (v := .int .i64 _) rfl) ?_
     obtain ⟨x1134, hx1135, h1136, h1137, hM⟩ := getK_ok hM
     obtain ⟨cs1138, hI1139, hR1140⟩ := RSl.elem_at hr16 hx1135
     obtain rfl := hR1140
     refine wl_h hS1115.toHeld (r_indexAddr Tryz.underlying26 ty3 (b := _) (o := _) (n := _) (c := _) (i := i877) rfl rfl h1136 (RSl.lt hr16 h1137)) <| wl_h hS1115.toHeld (r_imm ty3 (k := 0) hI1139 rfl rfl rfl (v := .int .i64 _) rfl) ?_
     obtain ⟨hc1141, hM⟩ := chk_ok hM
     refine wl_h hS1115.toHeld (r_add (a := _) (b := _) rfl rfl (ok_lo hc1141) (ok_hi hc1141)) <| wl_h hS1115.toHeld (r_assign (v := .int .i64 _) rfl) <| wl_nil <| c_nil <| q_norm <| c_region <| wl_h hS1115.toHeld (r_move (v := .int .i64 _) rfl) ?_
     obtain ⟨hc1142, hM⟩ := chk_ok hM
     refine wl_h hS1115.toHeld (r_add (a := _) (b := _) rfl rfl (ok_lo hc1142) (ok_hi hc1142)) <| wl_h hS1115.toHeld (r_assign (v := .int .i64 _) rfl) <| wl_nil <| c_nil <| q_loop ?_
     have hS1143 := hS1115.weaken (.cons_cons _ (.cons _ (.cons_cons _ (.refl _))))
     exact ⟨k_0, Nat.lt_succ_self _, (at875 + x1092) + x935.serve, x1134 + 1, i877 + 1, (l878 ++ [at875 + x1092]), a1108, (l878.length + 1), c1109, cs1114, hM, row_n (hS1143.toHeld.own .here) hrc1113 (by decide), hrc1113, hS1143, rfl, rfl, rfl, rfl, rfl, rfl⟩
 ·replace hM := bif_f h895 hM
  refine c_exit <| q_loopx <| q_hit <| c_seq <| c_region <| wl_h hS888.toHeld (r_move (v := .int .i64 _) rfl) ?_
  refine wl_h hS888.toHeld (r_fieldAddr fld53_1 (b := _) (o := _) rfl) <| wl_h hS888.toHeld (r_box ty23 (k := 1) (.there .here) rfl rfl rfl (v := .slice _ _ _) rfl) <| wl_h hS888.toHeld (r_move (v := .int .i64 _) rfl) ?_
  obtain ⟨x1144, hx1145, h1146, h1147, hM⟩ := getK_ok hM
  obtain ⟨b1148, o1149, rfl⟩ := RSl.elem_a hr11 hx1145
  obtain ⟨cs1150, hI1151, hR1152⟩ := RSl.elem_at hr11 hx1145
  obtain ⟨a1153, n1154, c1155, rfl, hr1156⟩ := hR1152
  obtain rfl := hr1156.1
  refine wl_h hS888.toHeld (r_indexAddr Tryz.underlying23 ty26 (b := _) (o := _) (n := _) (c := _) (i := place876) rfl rfl h1146 (RSl.lt hr11 h1147)) <| wl_h hS888.toHeld (r_imm ty26 (k := 0) hI1151 rfl rfl rfl (v := .slice _ _ _) rfl) ?_
  obtain ⟨x1157, hx1158, h1159, h1160, hM⟩ := getK_ok hM
  obtain ⟨b1161, o1162, rfl⟩ := RSl.elem_a hr1156 hx1158
  obtain ⟨cs1163, hI1164, hR1165⟩ := RSl.elem_at hr1156 hx1158
  obtain rfl := hR1165
  refine wl_h hS888.toHeld (r_indexAddr Tryz.underlying26 ty3 (b := _) (o := _) (n := _) (c := _) (i := 0) rfl rfl h1159 (RSl.lt hr1156 h1160)) <| wl_h hS888.toHeld (r_imm ty3 (k := 0) hI1164 rfl rfl rfl (v := .int .i64 _) rfl) ?_
  obtain ⟨hc1166, hM⟩ := chk_ok hM
  refine wl_h hS888.toHeld (r_add (a := _) (b := _) rfl rfl (ok_lo hc1166) (ok_hi hc1166)) <| wl_h hS888.toHeld (r_assign (v := .int .i64 _) rfl) <| wl_nil <| c_seq ?_
  have hH1169 := (hS888.weaken (.cons_cons _ (.cons_cons _ (.refl _)))).toHeld
  refine c_draw (k := 9) (fun w => Held w m (.row (.slice a879 l878.length c881) 3 1 cs882 :: .box b19 53 [.slice a4 f3.stops.length c6, .slice (some ⟨b1148, o1149, none⟩) f3.minutes.length c10, .int .i64 f3.cap, .int .i64 f3.start, .int .i64 f3.back] :: L)) mixed rfl ?_
  replace hH1169 := hH1169.drew1
  have hS1170 := hS888.drew1
  refine d_v (i := 0) rfl (by kernel_rfl) rfl (r_move (v := .slice _ _ _) rfl) hH1169 ?_
  refine d_v (i := 1) rfl (by kernel_rfl) rfl (r_move (v := .int .i64 _) rfl) hH1169 ?_
  refine d_v (i := 2) rfl (by kernel_rfl) rfl (r_move (v := .int .i64 _) rfl) hH1169 ?_
  refine d_v (i := 3) rfl (by kernel_rfl) rfl (r_fieldAddr fld53_4 (b := _) (o := _) rfl) hH1169 ?_
  refine d_v (i := 4) rfl (by kernel_rfl) rfl (r_box ty3 (k := 4) (.there .here) rfl rfl rfl (v := .int .i64 _) rfl) hH1169 ?_
  refine d_v (i := 5) rfl (by kernel_rfl) rfl (r_leq (a := _) (b := _) rfl rfl) hH1169 ?_
  refine d_v (i := 6) rfl (by kernel_rfl) rfl (r_assign (v := .slice _ _ _) rfl) hH1169 ?_
  refine d_v (i := 7) rfl (by kernel_rfl) rfl (r_assign (v := .int .i64 _) rfl) hH1169 ?_
  refine d_v (i := 8) rfl (by kernel_rfl) rfl (r_assign (v := .bool _) rfl) hH1169 ?_
  refine d_end (by kernel_rfl) ?_
  refine c_ret <| ret_many rfl (.tmp (v := .slice _ _ _) rfl (.tmp (v := .int .i64 _) rfl (.tmp (v := .bool _) rfl .nil))) ?_
  obtain rfl := some_eq hM
  have hS1171 := hS1170.weaken (.cons_cons _ (.cons _ (.refl _)))
  exact ⟨a879, l878.length, c881, cs882, rfl, row_n (hS1171.toHeld.own .here) hrc884 (by decide), hrc884, hS1171⟩

theorem cg71 {m : Mem} {L : List Atom} {w : World} {a1 : Option Addr} {n2 c3 : Nat} {l5 : List Int} (hS : St w m L) (hr4 : RSl 1 RInt m a1 n2 c3 l5) {fuel : Nat} {r : (List Int)} (hM : mg71 fuel l5 = some r) : Calls P0 71 [.slice a1 n2 c3].toArray w (Ret fun v w' => ∃ (a0 : Option Addr) (n0 : Nat) (c0 : Nat) (cs0 : List Value), v = .slice a0 n0 c0 ∧ n0 = r.length ∧ RCs 1 RInt m cs0 r ∧ St w' m (.row (.slice a0 n0 c0) 3 1 cs0 :: L)) := by
 rw [mg71] at hM
 obtain rfl := hr4.1
 refine enter Tryz.func71 rfl Tryz.ntmps71 (Nat.le_of_ble_eq_true rfl) ?_
 refine c_seq <| c_region <| wl_h hS.toHeld (r_assign (v := .slice _ _ _) rfl) <| wl_nil <| c_seq <| c_region <| wl_h hS.toHeld (r_assign (v := .slice _ _ _) rfl) ?_
 refine wl_nil <| c_seq <| c_region <| wl_h hS.toHeld (r_move (v := .slice _ _ _) rfl) <| wl_h hS.toHeld (r_move (v := .slice _ _ _) rfl) ?_
 have hS6 := hS.nilRow 3 1
 have hrc8 : RCs 1 RInt m [] ([] : List Int) := RCs.nil
 obtain ⟨hc9, hM⟩ := chk_ok hM
 obtain ⟨cs10, hq11, hrc12⟩ := RSl.cells RInt.one (by decide) hr4 hS6.toHeld
 refine wl_append_src Tryz.underlying26 ty3 rfl (by decide) hS6 (a := _) (nn := _) (c := _) rfl (a2 := _) (k2 := _) (c2 := _) rfl .here hq11 (lim_b hc9 rfl) (lim_a hc9) ?_
 intro a13 c14 w15 hS16
 have hrc18 := RCs.append hrc8 hrc12
 generalize [] ++ cs10 = cs19 at hS16 hrc18
 refine wl_h hS16.toHeld (r_assign (v := .slice _ _ _) rfl) <| wl_nil <| c_ret <| ret_tmp (t := 2) rfl (v := .slice _ _ _) rfl ?_
 obtain rfl := some_eq hM
 exact ⟨a13, (0 + l5.length), c14, cs19, rfl, row_n (hS16.toHeld.own .here) hrc18 (by decide), hrc18, hS16⟩

theorem cg21 {m : Mem} {L : List Atom} {w : World} {cs1 : List Value} {f3 : Fleet} {a13 : Option Addr} {n14 c15 : Nat} {stops17 : List Int} (hS : St w m L) (hx2 : RFleet m cs1 f3) (hr16 : RSl 1 RInt m a13 n14 c15 stops17) {fuel : Nat} {r : Tour × (List Int) × Int} (hM : mg21 fuel f3 stops17 = some r) : Calls P0 21 [.agg cs1.toArray, .slice a13 n14 c15].toArray w (Ret fun v w' => ∃ (a0 : Option Addr) (n0 : Nat) (c0 : Nat) (cs0 : List Value) (a1 : Option Addr) (n1 : Nat) (c1 : Nat) (cs1 : List Value), v = .tuple #[.agg #[.slice a0 n0 c0, .int .i64 r.1.leave, .int .i64 r.1.fin], .slice a1 n1 c1, .int .i64 r.2.2] ∧ n0 = r.1.stops.length ∧ RCs 1 RInt m cs0 r.1.stops ∧ n1 = r.2.1.length ∧ RCs 1 RInt m cs1 r.2.1 ∧ St w' m (.row (.slice a0 n0 c0) 3 1 cs0 :: .row (.slice a1 n1 c1) 3 1 cs1 :: L)) := by
 rw [mg21] at hM
 have hk12 := hx2
 obtain ⟨a4, n5, c6, a8, n9, c10, rfl, hr7, hr11⟩ := hx2
 obtain rfl := hr7.1
 obtain rfl := hr11.1
 obtain rfl := hr16.1
 refine enter Tryz.func21 rfl Tryz.ntmps21 (Nat.le_of_ble_eq_true rfl) ?_
 refine c_seq <| c_region <| wl_box hS (v := .agg #[.slice _ _ _, .slice _ _ _, .int .i64 _, .int .i64 _, .int .i64 _]) rfl (cs := [.slice _ _ _, .slice _ _ _, .int .i64 _, .int .i64 _, .int .i64 _]) rfl ?_
 intro b18 w19 hS20
 refine wl_alloc ty64 rfl hS20 ?_
 intro b21 w22 hS23
 refine wl_h hS23.toHeld (r_assign (v := .slice _ _ _) rfl) <| wl_h hS23.toHeld (r_assign (v := .int .i64 _) rfl) <| wl_nil <| c_seq <| c_seq <| c_region <| wl_h hS23.toHeld (r_box ty53 (k := 0) (.there .here) rfl rfl rfl (v := .agg #[.slice _ _ _, .slice _ _ _, .int .i64 _, .int .i64 _, .int .i64 _]) rfl) ?_
 refine wl_h hS23.toHeld (r_move (v := .slice _ _ _) rfl) ?_
 obtain ⟨r24, hq25, hM⟩ := bnd_ok hM
 refine wl_call ent68 (vals := [.agg #[.slice _ _ _, .slice _ _ _, .int .i64 _, .int .i64 _, .int .i64 _], .slice _ _ _]) rfl (cg68 hS23 hk12 hr16 hq25) ?_
 rintro _ w27 ⟨rfl, hS28⟩
 refine wl_h hS28.toHeld (r_assign (v := .int .i64 _) rfl) <| wl_nil <| c_seq <| c_region <| wl_h hS28.toHeld (r_move (v := .int .i64 _) rfl) ?_
 refine wl_h hS28.toHeld (r_neq (a := _) (b := _) rfl rfl) <| wl_nil <| c_cond (c := _) rfl (fun h29 => ?_) (fun h29 => ?_)
 ·replace hM := bif_t h29 hM
  refine c_seq <| c_region <| wl_h hS28.toHeld (r_build ty64 st64 (ps := []) rfl rfl (cs := [.slice _ _ _, .int .i64 _, .int .i64 _]) rfl) <| wl_h hS28.toHeld (r_move (v := .int .i64 _) rfl) <| wl_store_box ty64 hS28 rfl (v := .agg #[.slice _ _ _, .int .i64 _, .int .i64 _]) rfl (vs := [.slice _ _ _, .int .i64 _, .int .i64 _]) rfl rfl rfl .here (cs' := [.slice _ _ _, .int .i64 _, .int .i64 _]) rfl rfl ?_
  intro w30 hS31
  refine wl_h hS31.toHeld (r_assign (v := .slice _ _ _) rfl) <| wl_h hS31.toHeld (r_assign (v := .int .i64 _) rfl) <| wl_nil <| c_ret <| ret_many rfl (.cell (v := .agg #[.slice _ _ _, .int .i64 _, .int .i64 _]) rfl (ty64.run_loadVar (cs := [.slice _ _ _, .int .i64 _, .int .i64 _]) (box_at (hS31.toHeld.own .here)) rfl) (.tmp (v := .slice _ _ _) rfl (.tmp (v := .int .i64 _) rfl .nil))) ?_
  have hS32 := hS31.nilRow 3 1
  have hrc34 : RCs 1 RInt m [] ([] : List Int) := RCs.nil
  have hS35 := hS32.nilRow 3 1
  have hrc37 : RCs 1 RInt m [] ([] : List Int) := RCs.nil
  obtain rfl := some_eq hM
  have hS38 := hS35.weaken (.cons_cons _ (.cons_cons _ (.cons _ (.cons _ (.refl _)))))
  have hS39 := hS38.front (.there .here)
  exact ⟨none, 0, 0, [], none, 0, 0, [], rfl, row_n (hS39.toHeld.own .here) hrc34 (by decide), hrc34, row_n (hS39.toHeld.own (.there .here)) hrc37 (by decide), hrc37, hS39⟩
 ·replace hM := bif_f h29 hM
  refine c_skip <| c_seq <| c_region <| wl_h hS28.toHeld (r_box ty53 (k := 0) (.there .here) rfl rfl rfl (v := .agg #[.slice _ _ _, .slice _ _ _, .int .i64 _, .int .i64 _, .int .i64 _]) rfl) <| wl_h hS28.toHeld (r_move (v := .slice _ _ _) rfl) ?_
  obtain ⟨r40, hq41, hM⟩ := bnd_ok hM
  refine wl_call ent69 (vals := [.agg #[.slice _ _ _, .slice _ _ _, .int .i64 _, .int .i64 _, .int .i64 _], .slice _ _ _]) rfl (cg69 hS28 hk12 hr16 hq41) ?_
  rintro _ w43 ⟨rfl, hS44⟩
  refine wl_h hS44.toHeld (r_assign (v := .int .i64 _) rfl) <| wl_nil <| c_seq <| c_region <| wl_h hS44.toHeld (r_box ty53 (k := 0) (.there .here) rfl rfl rfl (v := .agg #[.slice _ _ _, .slice _ _ _, .int .i64 _, .int .i64 _, .int .i64 _]) rfl) ?_
  refine wl_h hS44.toHeld (r_move (v := .slice _ _ _) rfl) <| wl_h hS44.toHeld (r_move (v := .int .i64 _) rfl) ?_
  obtain ⟨r45, hq46, hM⟩ := bnd_ok hM
  refine wl_call ent70 (vals := [.agg #[.slice _ _ _, .slice _ _ _, .int .i64 _, .int .i64 _, .int .i64 _], .slice _ _ _, .int .i64 _]) rfl (cg70 hS44 hk12 hr16 hq46) ?_
  rintro _ w54 ⟨a48, n49, c50, cs51, rfl, rfl, hrc52, hS55⟩
  refine wl_h hS55.toHeld (r_move (v := .tuple #[.slice _ _ _, .int .i64 _, .bool _]) rfl) <| wl_h hS55.toHeld (r_extract (vs := [.slice _ _ _, .int .i64 _, .bool _]) rfl (v := .slice _ _ _) rfl) <| wl_h hS55.toHeld (r_extract (vs := [.slice _ _ _, .int .i64 _, .bool _]) rfl (v := .int .i64 _) rfl) <| wl_h hS55.toHeld (r_extract (vs := [.slice _ _ _, .int .i64 _, .bool _]) rfl (v := .bool _) rfl) <| wl_h hS55.toHeld (r_assign (v := .slice _ _ _) rfl) ?_
  refine wl_h hS55.toHeld (r_assign (v := .int .i64 _) rfl) <| wl_h hS55.toHeld (r_assign (v := .bool _) rfl) <| wl_nil <| c_seq <| c_seq <| c_region <| wl_h hS55.toHeld (r_move (v := .bool _) rfl) ?_
  refine wl_h hS55.toHeld (r_not (b := _) rfl) <| wl_nil <| c_cond (c := _) rfl (fun h56 => ?_) (fun h56 => ?_)
  ·replace hM := bif_t h56 hM
   refine c_seq <| c_region <| wl_h hS55.toHeld (r_build ty64 st64 (ps := []) rfl rfl (cs := [.slice _ _ _, .int .i64 _, .int .i64 _]) rfl) <| wl_store_box ty64 hS55 rfl (v := .agg #[.slice _ _ _, .int .i64 _, .int .i64 _]) rfl (vs := [.slice _ _ _, .int .i64 _, .int .i64 _]) rfl rfl rfl (.there .here) (cs' := [.slice _ _ _, .int .i64 _, .int .i64 _]) rfl rfl ?_
   intro w57 hS58
   refine wl_h hS58.toHeld (r_assign (v := .slice _ _ _) rfl) <| wl_h hS58.toHeld (r_assign (v := .int .i64 _) rfl) <| wl_nil <| c_ret <| ret_many rfl (.cell (v := .agg #[.slice _ _ _, .int .i64 _, .int .i64 _]) rfl (ty64.run_loadVar (cs := [.slice _ _ _, .int .i64 _, .int .i64 _]) (box_at (hS58.toHeld.own (.there .here))) rfl) (.tmp (v := .slice _ _ _) rfl (.tmp (v := .int .i64 _) rfl .nil))) ?_
   have hS59 := hS58.nilRow 3 1
   have hrc61 : RCs 1 RInt m [] ([] : List Int) := RCs.nil
   have hS62 := hS59.nilRow 3 1
   have hrc64 : RCs 1 RInt m [] ([] : List Int) := RCs.nil
   obtain rfl := some_eq hM
   have hS65 := hS62.weaken (.cons_cons _ (.cons_cons _ (.cons _ (.cons _ (.cons _ (.refl _))))))
   have hS66 := hS65.front (.there .here)
   exact ⟨none, 0, 0, [], none, 0, 0, [], rfl, row_n (hS66.toHeld.own .here) hrc61 (by decide), hrc61, row_n (hS66.toHeld.own (.there .here)) hrc64 (by decide), hrc64, hS66⟩
  ·replace hM := bif_f h56 hM
   refine c_skip <| c_seq <| c_region <| wl_h hS55.toHeld (r_move (v := .slice _ _ _) rfl) ?_
   obtain ⟨r67, hq68, hM⟩ := bnd_ok hM
   refine wl_call ent71 (vals := [.slice _ _ _]) rfl (cg71 hS55 hr16 hq68) ?_
   rintro _ w76 ⟨a70, n71, c72, cs73, rfl, rfl, hrc74, hS77⟩
   refine wl_h hS77.toHeld (r_move (v := .int .i64 _) rfl) <| wl_h hS77.toHeld (r_move (v := .int .i64 _) rfl) <| wl_h hS77.toHeld (r_build ty64 st64 (ps := [(0, [.slice _ _ _]), (1, [.int .i64 _]), (2, [.int .i64 _])]) rfl rfl (cs := [.slice _ _ _, .int .i64 _, .int .i64 _]) rfl) <| wl_h hS77.toHeld (r_move (v := .slice _ _ _) rfl) <| wl_store_box ty64 hS77 rfl (v := .agg #[.slice _ _ _, .int .i64 _, .int .i64 _]) rfl (vs := [.slice _ _ _, .int .i64 _, .int .i64 _]) rfl rfl rfl (.there (.there .here)) (cs' := [.slice _ _ _, .int .i64 _, .int .i64 _]) rfl rfl ?_
   intro w78 hS79
   refine wl_h hS79.toHeld (r_assign (v := .slice _ _ _) rfl) <| wl_h hS79.toHeld (r_assign (v := .int .i64 _) rfl) <| wl_nil <| c_ret <| ret_many rfl (.cell (v := .agg #[.slice _ _ _, .int .i64 _, .int .i64 _]) rfl (ty64.run_loadVar (cs := [.slice _ _ _, .int .i64 _, .int .i64 _]) (box_at (hS79.toHeld.own (.there (.there .here)))) rfl) (.tmp (v := .slice _ _ _) rfl (.tmp (v := .int .i64 _) rfl .nil))) ?_
   obtain rfl := some_eq hM
   have hS80 := hS79.weaken (.cons_cons _ (.cons_cons _ (.cons _ (.cons _ (.refl _)))))
   exact ⟨a70, r67.length, c72, cs73, a48, r45.1.length, c50, cs51, rfl, row_n (hS80.toHeld.own .here) hrc74 (by decide), hrc74, row_n (hS80.toHeld.own (.there .here)) hrc52 (by decide), hrc52, hS80⟩

end Go.Proofs.YtdhhimfcjoclfaaGreat
