import Derived.Test.YtdhhimfcjoclfaaF
import Derived.Test.YtdhhimfcjoclfaaVM
import Derived.Test.YtdhhimfcjoclfaaKN
import Derived.Test.YtdhhimfcjoclfaaSh
import Derived.Test.YtdhhimfcjoclfaaKS
set_option linter.unusedVariables false
set_option linter.unusedSimpArgs false
set_option maxRecDepth 100000
namespace Go.Proofs.Ytdhhimfcjoclfaa
open Go Go.K Go.V Go.Proofs
attribute [local irreducible] Calls
theorem cg68 {m : Mem} {L : List Atom} {w : World} {a : Option Addr} {n c : Nat} {cs : List Value} {zs : List Int} (hS : St w m (.row (.slice a n c) 3 1 cs :: L)) (hr : RCs 1 RInt m cs zs) {fuel : Nat} {r : List Int} (hM : mg68 fuel zs = some r) : Calls P0 68 [.slice a n c].toArray w (Ret fun v w' => ∃ (cs0 : List Value), v = .tuple #[] ∧ n = r.length ∧ RCs 1 RInt m cs0 r ∧ St w' m (.row (.slice a n c) 3 1 cs0 :: L)) := sort_row Try.lSort hS hr hM

theorem cg49 {m : Mem} {L : List Atom} {w : World} {a : Option Addr} {n c : Nat} {cs : List Value} {zs : List Int} (hS : St w m (.row (.slice a n c) 3 1 cs :: L)) (hr : RCs 1 RInt m cs zs) {fuel : Nat} {r : List Int} (hM : mg49 fuel zs = some r) : Calls P0 49 [.slice a n c].toArray w (Ret fun v w' => ∃ (a0 : Option Addr) (n0 c0 : Nat) (cs0 : List Value), v = .slice a0 n0 c0 ∧ n0 = r.length ∧ RCs 1 RInt m cs0 r ∧ St w' m (.row (.slice a0 n0 c0) 3 1 cs0 :: L)) := compact_row Try.lCompact hS hr hM

theorem cg7 {m : Mem} {L : List Atom} {w : World} {b1 : Nat} {a2 : Option Addr} {n3 c4 : Nat} {y6 : List Int} {y7 : Int} {n8 : Int} (hS : St w m (.box b1 30 [.slice a2 n3 c4, .int .i64 y7] :: L)) (hr5 : RSl 1 (RIntK .u8) m a2 n3 c4 y6) {fuel : Nat} {r : Int × Int} (hM : mg7 fuel y6 y7 n8 = some r) : Calls P0 7 [.pointer (some ⟨b1, 0, none⟩), .int .i64 n8].toArray w (Ret fun v w' => v = .int .i64 r.1 ∧ St w' m (.box b1 30 [.slice a2 n3 c4, .int .i64 r.2] :: L)) := by
 rw [mg7] at hM
 obtain rfl := hr5.1
 refine enter Try.func7 rfl Try.ntmps7 (Nat.le_of_ble_eq_true rfl) ?_
 refine c_seq <| c_region <| wl_h hS.toHeld (r_assign (v := .int .i64 _) rfl) <| wl_nil <| c_seq <| c_region <| wl_h hS.toHeld (r_move (v := .pointer (some ⟨_, _, none⟩)) rfl) ?_
 refine wl_h hS.toHeld (r_nilCheck rfl) <| wl_h hS.toHeld (r_fieldAddr fld30_1 (b := _) (o := _) rfl) <| wl_h hS.toHeld (r_box ty3 (k := 1) .here rfl rfl rfl (v := .int .i64 _) rfl) ?_
 obtain ⟨hc9, hM⟩ := chk_ok hM
 refine wl_h hS.toHeld (r_add (a := _) (b := _) rfl rfl (ok_lo hc9) (ok_hi hc9)) <| wl_h hS.toHeld (r_nilCheck rfl) <| wl_h hS.toHeld (r_fieldAddr fld30_1 (b := _) (o := _) rfl) <| wl_store_box ty3 hS rfl (v := .int .i64 _) rfl (vs := [.int .i64 _]) rfl rfl rfl .here (cs' := [.slice _ _ _, .int .i64 _]) rfl rfl ?_
 intro w10 hS11
 refine wl_nil <| c_seq <| c_seq ?_
 have hH16 := (hS11.weaken (.cons_cons _ (.refl _))).toHeld
 refine c_drawJ (k := 10) (fun f w => St w m (.box b1 30 [.slice a2 y6.length c4, .int .i64 (y7 + 1)] :: L) ∧ f 0 = .pointer (some ⟨b1, 0, none⟩) ∧ f 1 = .int .i64 n8 ∧ f 4 = .int .i64 0 ∧ f 21 = .bool (decide (((y6.length : Nat) : Int) < (y7 + 1)))) (fun w => Held w m (.box b1 30 [.slice a2 y6.length c4, .int .i64 (y7 + 1)] :: L)) mixed rfl ?_ ?_
 ·replace hH16 := hH16.drew1
  have hS17 := hS11.drew1
  refine d_v (i := 0) rfl (by kernel_rfl) rfl (r_move (v := .pointer (some ⟨_, _, none⟩)) rfl) hH16 ?_
  refine d_v (i := 4) rfl (by kernel_rfl) rfl (r_move (v := .pointer (some ⟨_, _, none⟩)) rfl) hH16 ?_
  refine d_all (rs := [1, 5]) (by kernel_rfl) (by simp) (fun j hj o ho => ?_)
  simp only [List.mem_cons, List.not_mem_nil, or_false] at hj
  rcases hj with rfl | rfl
  ·cases ho
   refine wl_h hS17.toHeld (r_nilCheck rfl) <| wl_nil ?_
   have hH18 := hS17.toHeld.mono (Mem.le_refl _) (List.Sublist.subset (.cons_cons _ (.refl _)))
   refine ⟨hH18, ?_⟩
   refine d_v (i := 2) rfl (by kernel_rfl) rfl (r_fieldAddr fld30_1 (b := _) (o := _) rfl) hH18 ?_
   refine d_v (i := 3) rfl (by kernel_rfl) rfl (r_box ty3 (k := 1) .here rfl rfl rfl (v := .int .i64 _) rfl) hH18 ?_
   refine d_all (rs := [5]) (by kernel_rfl) (by simp) (fun j hj o ho => ?_)
   obtain rfl : j = 5 := by simpa using hj
   cases ho
   refine wl_h hS17.toHeld (r_nilCheck rfl) <| wl_nil ?_
   have hH19 := hS17.toHeld.mono (Mem.le_refl _) (List.Sublist.subset (.cons_cons _ (.refl _)))
   refine ⟨hH19, ?_⟩
   refine d_v (i := 6) rfl (by kernel_rfl) rfl (r_fieldAddr fld30_0 (b := _) (o := _) rfl) hH19 ?_
   refine d_v (i := 7) rfl (by kernel_rfl) rfl (r_box ty22 (k := 0) .here rfl rfl rfl (v := .slice _ _ _) rfl) hH19 ?_
   refine d_v (i := 8) rfl (by kernel_rfl) rfl (r_len Try.underlying22 (a := _) (n := _) (c := _) rfl) hH19 ?_
   refine d_v (i := 9) rfl (by kernel_rfl) rfl (r_gtr (a := _) (b := _) rfl rfl) hH19 ?_
   refine d_end (by kernel_rfl) ?_
   exact ⟨hS17, rfl, rfl, rfl, rfl⟩
  ·cases ho
   refine wl_h hS17.toHeld (r_nilCheck rfl) <| wl_nil ?_
   have hH20 := hS17.toHeld.mono (Mem.le_refl _) (List.Sublist.subset (.cons_cons _ (.refl _)))
   refine ⟨hH20, ?_⟩
   refine d_v (i := 6) rfl (by kernel_rfl) rfl (r_fieldAddr fld30_0 (b := _) (o := _) rfl) hH20 ?_
   refine d_v (i := 7) rfl (by kernel_rfl) rfl (r_box ty22 (k := 0) .here rfl rfl rfl (v := .slice _ _ _) rfl) hH20 ?_
   refine d_v (i := 8) rfl (by kernel_rfl) rfl (r_len Try.underlying22 (a := _) (n := _) (c := _) rfl) hH20 ?_
   refine d_all (rs := [1]) (by kernel_rfl) (by simp) (fun j hj o ho => ?_)
   obtain rfl : j = 1 := by simpa using hj
   cases ho
   refine wl_h hS17.toHeld (r_nilCheck rfl) <| wl_nil ?_
   have hH21 := hS17.toHeld.mono (Mem.le_refl _) (List.Sublist.subset (.cons_cons _ (.refl _)))
   refine ⟨hH21, ?_⟩
   refine d_v (i := 2) rfl (by kernel_rfl) rfl (r_fieldAddr fld30_1 (b := _) (o := _) rfl) hH21 ?_
   refine d_v (i := 3) rfl (by kernel_rfl) rfl (r_box ty3 (k := 1) .here rfl rfl rfl (v := .int .i64 _) rfl) hH21 ?_
   refine d_v (i := 9) rfl (by kernel_rfl) rfl (r_gtr (a := _) (b := _) rfl rfl) hH21 ?_
   refine d_end (by kernel_rfl) ?_
   exact ⟨hS17, rfl, rfl, rfl, rfl⟩
 ·rintro f27 w28 ⟨hS22, e23, e24, e25, e26⟩
  refine c_know (t := 0) e23 <| c_know (t := 1) e24 <| c_know (t := 4) e25 <| c_know (t := 21) e26 ?_
  clear e23 e24 e25 e26
  refine c_cond (c := _) rfl (fun h29 => ?_) (fun h29 => ?_)
  ·replace hM := bif_t h29 hM
   refine c_seq <| c_region <| wl_h hS22.toHeld (r_assign (v := .int .i64 _) rfl) <| wl_nil <| c_ret <| ret_tmp (t := 4) rfl (v := .int .i64 _) rfl ?_
   obtain rfl := some_eq hM
   exact ⟨rfl, hS22⟩
  ·replace hM := bif_f h29 hM
   refine c_skip <| c_seq ?_
   obtain ⟨hc52, hM⟩ := chk_ok hM
   obtain ⟨x53, hx54, h55, h56, hM⟩ := getK_ok hM
   obtain ⟨hc62, hM⟩ := chk_ok hM
   obtain ⟨hc63, hM⟩ := chk_ok hM
   have hH64 := (hS22.weaken (.cons _ (.refl _))).toHeld
   refine c_drawJ (k := 15) (fun f w => St w m (.box b1 30 [.slice a2 y6.length c4, .int .i64 (y7 + 1)] :: L) ∧ f 4 = .int .i64 (x53.tmod n8)) (fun w => Held w m (L)) mixed rfl ?_ ?_
   ·replace hH64 := hH64.drew1
    have hS65 := hS22.drew1
    refine d_v (i := 0) rfl (by kernel_rfl) rfl (r_move (v := .pointer (some ⟨_, _, none⟩)) rfl) hH64 ?_
    refine d_v (i := 4) rfl (by kernel_rfl) rfl (r_move (v := .pointer (some ⟨_, _, none⟩)) rfl) hH64 ?_
    refine d_v (i := 12) rfl (by kernel_rfl) rfl (r_move (v := .int .i64 _) rfl) hH64 ?_
    refine d_all (rs := [1, 5]) (by kernel_rfl) (by simp) (fun j hj o ho => ?_)
    simp only [List.mem_cons, List.not_mem_nil, or_false] at hj
    rcases hj with rfl | rfl
    ·cases ho
     refine wl_h hS65.toHeld (r_nilCheck rfl) <| wl_nil ?_
     have hH66 := hS65.toHeld.mono (Mem.le_refl _) (List.Sublist.subset (.cons _ (.refl _)))
     refine ⟨hH66, ?_⟩
     refine d_v (i := 2) rfl (by kernel_rfl) rfl (r_fieldAddr fld30_0 (b := _) (o := _) rfl) hH66 ?_
     refine d_all (rs := [3, 5]) (by kernel_rfl) (by simp) (fun j hj o ho => ?_)
     simp only [List.mem_cons, List.not_mem_nil, or_false] at hj
     rcases hj with rfl | rfl
     ·cases ho
      refine wl_h hS65.toHeld (r_box ty22 (k := 0) .here rfl rfl rfl (v := .slice _ _ _) rfl) <| wl_nil ?_
      have hH67 := hS65.toHeld.mono (Mem.le_refl _) (List.Sublist.subset (.cons _ (.refl _)))
      refine ⟨hH67, ?_⟩
      refine d_all (rs := [5]) (by kernel_rfl) (by simp) (fun j hj o ho => ?_)
      obtain rfl : j = 5 := by simpa using hj
      cases ho
      refine wl_h hS65.toHeld (r_nilCheck rfl) <| wl_nil ?_
      have hH68 := hS65.toHeld.mono (Mem.le_refl _) (List.Sublist.subset (.cons _ (.refl _)))
      refine ⟨hH68, ?_⟩
      refine d_v (i := 6) rfl (by kernel_rfl) rfl (r_fieldAddr fld30_1 (b := _) (o := _) rfl) hH68 ?_
      refine d_all (rs := [7]) (by kernel_rfl) (by simp) (fun j hj o ho => ?_)
      obtain rfl : j = 7 := by simpa using hj
      cases ho
      refine wl_h hS65.toHeld (r_box ty3 (k := 1) .here rfl rfl rfl (v := .int .i64 _) rfl) <| wl_nil ?_
      have hH69 := hS65.toHeld.mono (Mem.le_refl _) (List.Sublist.subset (.cons _ (.refl _)))
      refine ⟨hH69, ?_⟩
      refine d_v (i := 8) rfl (by kernel_rfl) rfl (r_sub (a := _) (b := _) rfl rfl (ok_lo hc52) (ok_hi hc52)) hH69 ?_
      obtain ⟨b70, o71, rfl⟩ := RSl.elem_a hr5 hx54
      obtain ⟨cs72, hI73, hR74⟩ := RSl.elem_at hr5 hx54
      obtain rfl := hR74
      refine d_v (i := 9) rfl (by kernel_rfl) rfl (r_indexAddr Try.underlying22 ty5 (b := _) (o := _) (n := _) (c := _) (i := (y7 + 1) - 1) rfl rfl h55 (RSl.lt hr5 h56)) hH69 ?_
      refine d_v (i := 10) rfl (by kernel_rfl) rfl (r_imm ty5 (k := 0) hI73 rfl rfl rfl (v := .int .u8 _) rfl) hH69 ?_
      refine d_v (i := 11) rfl (by kernel_rfl) rfl (r_conv64 Try.underlying5 Try.underlying3 (a := _) rfl hc62) hH69 ?_
      refine d_v (i := 13) rfl (by kernel_rfl) rfl (r_remk (a := _) (b := _) rfl rfl hc63) hH69 ?_
      refine d_v (i := 14) rfl (by kernel_rfl) rfl (r_assign (v := .int .i64 _) rfl) hH69 ?_
      refine d_end (by kernel_rfl) ?_
      exact ⟨hS65, rfl⟩
     ·cases ho
      refine wl_h hS65.toHeld (r_nilCheck rfl) <| wl_nil ?_
      have hH75 := hS65.toHeld.mono (Mem.le_refl _) (List.Sublist.subset (.cons _ (.refl _)))
      refine ⟨hH75, ?_⟩
      refine d_v (i := 6) rfl (by kernel_rfl) rfl (r_fieldAddr fld30_1 (b := _) (o := _) rfl) hH75 ?_
      refine d_all (rs := [3, 7]) (by kernel_rfl) (by simp) (fun j hj o ho => ?_)
      simp only [List.mem_cons, List.not_mem_nil, or_false] at hj
      rcases hj with rfl | rfl
      ·cases ho
       refine wl_h hS65.toHeld (r_box ty22 (k := 0) .here rfl rfl rfl (v := .slice _ _ _) rfl) <| wl_nil ?_
       have hH76 := hS65.toHeld.mono (Mem.le_refl _) (List.Sublist.subset (.cons _ (.refl _)))
       refine ⟨hH76, ?_⟩
       refine d_all (rs := [7]) (by kernel_rfl) (by simp) (fun j hj o ho => ?_)
       obtain rfl : j = 7 := by simpa using hj
       cases ho
       refine wl_h hS65.toHeld (r_box ty3 (k := 1) .here rfl rfl rfl (v := .int .i64 _) rfl) <| wl_nil ?_
       have hH77 := hS65.toHeld.mono (Mem.le_refl _) (List.Sublist.subset (.cons _ (.refl _)))
       refine ⟨hH77, ?_⟩
       refine d_v (i := 8) rfl (by kernel_rfl) rfl (r_sub (a := _) (b := _) rfl rfl (ok_lo hc52) (ok_hi hc52)) hH77 ?_
       obtain ⟨b78, o79, rfl⟩ := RSl.elem_a hr5 hx54
       obtain ⟨cs80, hI81, hR82⟩ := RSl.elem_at hr5 hx54
       obtain rfl := hR82
       refine d_v (i := 9) rfl (by kernel_rfl) rfl (r_indexAddr Try.underlying22 ty5 (b := _) (o := _) (n := _) (c := _) (i := (y7 + 1) - 1) rfl rfl h55 (RSl.lt hr5 h56)) hH77 ?_
       refine d_v (i := 10) rfl (by kernel_rfl) rfl (r_imm ty5 (k := 0) hI81 rfl rfl rfl (v := .int .u8 _) rfl) hH77 ?_
       refine d_v (i := 11) rfl (by kernel_rfl) rfl (r_conv64 Try.underlying5 Try.underlying3 (a := _) rfl hc62) hH77 ?_
       refine d_v (i := 13) rfl (by kernel_rfl) rfl (r_remk (a := _) (b := _) rfl rfl hc63) hH77 ?_
       refine d_v (i := 14) rfl (by kernel_rfl) rfl (r_assign (v := .int .i64 _) rfl) hH77 ?_
       refine d_end (by kernel_rfl) ?_
       exact ⟨hS65, rfl⟩
      ·cases ho
       refine wl_h hS65.toHeld (r_box ty3 (k := 1) .here rfl rfl rfl (v := .int .i64 _) rfl) <| wl_nil ?_
       have hH83 := hS65.toHeld.mono (Mem.le_refl _) (List.Sublist.subset (.cons _ (.refl _)))
       refine ⟨hH83, ?_⟩
       refine d_v (i := 8) rfl (by kernel_rfl) rfl (r_sub (a := _) (b := _) rfl rfl (ok_lo hc52) (ok_hi hc52)) hH83 ?_
       refine d_all (rs := [3]) (by kernel_rfl) (by simp) (fun j hj o ho => ?_)
       obtain rfl : j = 3 := by simpa using hj
       cases ho
       refine wl_h hS65.toHeld (r_box ty22 (k := 0) .here rfl rfl rfl (v := .slice _ _ _) rfl) <| wl_nil ?_
       have hH84 := hS65.toHeld.mono (Mem.le_refl _) (List.Sublist.subset (.cons _ (.refl _)))
       refine ⟨hH84, ?_⟩
       obtain ⟨b85, o86, rfl⟩ := RSl.elem_a hr5 hx54
       obtain ⟨cs87, hI88, hR89⟩ := RSl.elem_at hr5 hx54
       obtain rfl := hR89
       refine d_v (i := 9) rfl (by kernel_rfl) rfl (r_indexAddr Try.underlying22 ty5 (b := _) (o := _) (n := _) (c := _) (i := (y7 + 1) - 1) rfl rfl h55 (RSl.lt hr5 h56)) hH84 ?_
       refine d_v (i := 10) rfl (by kernel_rfl) rfl (r_imm ty5 (k := 0) hI88 rfl rfl rfl (v := .int .u8 _) rfl) hH84 ?_
       refine d_v (i := 11) rfl (by kernel_rfl) rfl (r_conv64 Try.underlying5 Try.underlying3 (a := _) rfl hc62) hH84 ?_
       refine d_v (i := 13) rfl (by kernel_rfl) rfl (r_remk (a := _) (b := _) rfl rfl hc63) hH84 ?_
       refine d_v (i := 14) rfl (by kernel_rfl) rfl (r_assign (v := .int .i64 _) rfl) hH84 ?_
       refine d_end (by kernel_rfl) ?_
       exact ⟨hS65, rfl⟩
    ·cases ho
     refine wl_h hS65.toHeld (r_nilCheck rfl) <| wl_nil ?_
     have hH90 := hS65.toHeld.mono (Mem.le_refl _) (List.Sublist.subset (.cons _ (.refl _)))
     refine ⟨hH90, ?_⟩
     refine d_v (i := 6) rfl (by kernel_rfl) rfl (r_fieldAddr fld30_1 (b := _) (o := _) rfl) hH90 ?_
     refine d_all (rs := [1, 7]) (by kernel_rfl) (by simp) (fun j hj o ho => ?_)
     simp only [List.mem_cons, List.not_mem_nil, or_false] at hj
     rcases hj with rfl | rfl
     ·cases ho
      refine wl_h hS65.toHeld (r_nilCheck rfl) <| wl_nil ?_
      have hH91 := hS65.toHeld.mono (Mem.le_refl _) (List.Sublist.subset (.cons _ (.refl _)))
      refine ⟨hH91, ?_⟩
      refine d_v (i := 2) rfl (by kernel_rfl) rfl (r_fieldAddr fld30_0 (b := _) (o := _) rfl) hH91 ?_
      refine d_all (rs := [3, 7]) (by kernel_rfl) (by simp) (fun j hj o ho => ?_)
      simp only [List.mem_cons, List.not_mem_nil, or_false] at hj
      rcases hj with rfl | rfl
      ·cases ho
       refine wl_h hS65.toHeld (r_box ty22 (k := 0) .here rfl rfl rfl (v := .slice _ _ _) rfl) <| wl_nil ?_
       have hH92 := hS65.toHeld.mono (Mem.le_refl _) (List.Sublist.subset (.cons _ (.refl _)))
       refine ⟨hH92, ?_⟩
       refine d_all (rs := [7]) (by kernel_rfl) (by simp) (fun j hj o ho => ?_)
       obtain rfl : j = 7 := by simpa using hj
       cases ho
       refine wl_h hS65.toHeld (r_box ty3 (k := 1) .here rfl rfl rfl (v := .int .i64 _) rfl) <| wl_nil ?_
       have hH93 := hS65.toHeld.mono (Mem.le_refl _) (List.Sublist.subset (.cons _ (.refl _)))
       refine ⟨hH93, ?_⟩
       refine d_v (i := 8) rfl (by kernel_rfl) rfl (r_sub (a := _) (b := _) rfl rfl (ok_lo hc52) (ok_hi hc52)) hH93 ?_
       obtain ⟨b94, o95, rfl⟩ := RSl.elem_a hr5 hx54
       obtain ⟨cs96, hI97, hR98⟩ := RSl.elem_at hr5 hx54
       obtain rfl := hR98
       refine d_v (i := 9) rfl (by kernel_rfl) rfl (r_indexAddr Try.underlying22 ty5 (b := _) (o := _) (n := _) (c := _) (i := (y7 + 1) - 1) rfl rfl h55 (RSl.lt hr5 h56)) hH93 ?_
       refine d_v (i := 10) rfl (by kernel_rfl) rfl (r_imm ty5 (k := 0) hI97 rfl rfl rfl (v := .int .u8 _) rfl) hH93 ?_
       refine d_v (i := 11) rfl (by kernel_rfl) rfl (r_conv64 Try.underlying5 Try.underlying3 (a := _) rfl hc62) hH93 ?_
       refine d_v (i := 13) rfl (by kernel_rfl) rfl (r_remk (a := _) (b := _) rfl rfl hc63) hH93 ?_
       refine d_v (i := 14) rfl (by kernel_rfl) rfl (r_assign (v := .int .i64 _) rfl) hH93 ?_
       refine d_end (by kernel_rfl) ?_
       exact ⟨hS65, rfl⟩
      ·cases ho
       refine wl_h hS65.toHeld (r_box ty3 (k := 1) .here rfl rfl rfl (v := .int .i64 _) rfl) <| wl_nil ?_
       have hH99 := hS65.toHeld.mono (Mem.le_refl _) (List.Sublist.subset (.cons _ (.refl _)))
       refine ⟨hH99, ?_⟩
       refine d_v (i := 8) rfl (by kernel_rfl) rfl (r_sub (a := _) (b := _) rfl rfl (ok_lo hc52) (ok_hi hc52)) hH99 ?_
       refine d_all (rs := [3]) (by kernel_rfl) (by simp) (fun j hj o ho => ?_)
       obtain rfl : j = 3 := by simpa using hj
       cases ho
       refine wl_h hS65.toHeld (r_box ty22 (k := 0) .here rfl rfl rfl (v := .slice _ _ _) rfl) <| wl_nil ?_
       have hH100 := hS65.toHeld.mono (Mem.le_refl _) (List.Sublist.subset (.cons _ (.refl _)))
       refine ⟨hH100, ?_⟩
       obtain ⟨b101, o102, rfl⟩ := RSl.elem_a hr5 hx54
       obtain ⟨cs103, hI104, hR105⟩ := RSl.elem_at hr5 hx54
       obtain rfl := hR105
       refine d_v (i := 9) rfl (by kernel_rfl) rfl (r_indexAddr Try.underlying22 ty5 (b := _) (o := _) (n := _) (c := _) (i := (y7 + 1) - 1) rfl rfl h55 (RSl.lt hr5 h56)) hH100 ?_
       refine d_v (i := 10) rfl (by kernel_rfl) rfl (r_imm ty5 (k := 0) hI104 rfl rfl rfl (v := .int .u8 _) rfl) hH100 ?_
       refine d_v (i := 11) rfl (by kernel_rfl) rfl (r_conv64 Try.underlying5 Try.underlying3 (a := _) rfl hc62) hH100 ?_
       refine d_v (i := 13) rfl (by kernel_rfl) rfl (r_remk (a := _) (b := _) rfl rfl hc63) hH100 ?_
       refine d_v (i := 14) rfl (by kernel_rfl) rfl (r_assign (v := .int .i64 _) rfl) hH100 ?_
       refine d_end (by kernel_rfl) ?_
       exact ⟨hS65, rfl⟩
     ·cases ho
      refine wl_h hS65.toHeld (r_box ty3 (k := 1) .here rfl rfl rfl (v := .int .i64 _) rfl) <| wl_nil ?_
      have hH106 := hS65.toHeld.mono (Mem.le_refl _) (List.Sublist.subset (.cons _ (.refl _)))
      refine ⟨hH106, ?_⟩
      refine d_v (i := 8) rfl (by kernel_rfl) rfl (r_sub (a := _) (b := _) rfl rfl (ok_lo hc52) (ok_hi hc52)) hH106 ?_
      refine d_all (rs := [1]) (by kernel_rfl) (by simp) (fun j hj o ho => ?_)
      obtain rfl : j = 1 := by simpa using hj
      cases ho
      refine wl_h hS65.toHeld (r_nilCheck rfl) <| wl_nil ?_
      have hH107 := hS65.toHeld.mono (Mem.le_refl _) (List.Sublist.subset (.cons _ (.refl _)))
      refine ⟨hH107, ?_⟩
      refine d_v (i := 2) rfl (by kernel_rfl) rfl (r_fieldAddr fld30_0 (b := _) (o := _) rfl) hH107 ?_
      refine d_all (rs := [3]) (by kernel_rfl) (by simp) (fun j hj o ho => ?_)
      obtain rfl : j = 3 := by simpa using hj
      cases ho
      refine wl_h hS65.toHeld (r_box ty22 (k := 0) .here rfl rfl rfl (v := .slice _ _ _) rfl) <| wl_nil ?_
      have hH108 := hS65.toHeld.mono (Mem.le_refl _) (List.Sublist.subset (.cons _ (.refl _)))
      refine ⟨hH108, ?_⟩
      obtain ⟨b109, o110, rfl⟩ := RSl.elem_a hr5 hx54
      obtain ⟨cs111, hI112, hR113⟩ := RSl.elem_at hr5 hx54
      obtain rfl := hR113
      refine d_v (i := 9) rfl (by kernel_rfl) rfl (r_indexAddr Try.underlying22 ty5 (b := _) (o := _) (n := _) (c := _) (i := (y7 + 1) - 1) rfl rfl h55 (RSl.lt hr5 h56)) hH108 ?_
      refine d_v (i := 10) rfl (by kernel_rfl) rfl (r_imm ty5 (k := 0) hI112 rfl rfl rfl (v := .int .u8 _) rfl) hH108 ?_
      refine d_v (i := 11) rfl (by kernel_rfl) rfl (r_conv64 Try.underlying5 Try.underlying3 (a := _) rfl hc62) hH108 ?_
      refine d_v (i := 13) rfl (by kernel_rfl) rfl (r_remk (a := _) (b := _) rfl rfl hc63) hH108 ?_
      refine d_v (i := 14) rfl (by kernel_rfl) rfl (r_assign (v := .int .i64 _) rfl) hH108 ?_
      refine d_end (by kernel_rfl) ?_
      exact ⟨hS65, rfl⟩
   ·rintro f116 w117 ⟨hS114, e115⟩
    refine c_know (t := 4) e115 ?_
    clear e115
    refine c_ret <| ret_tmp (t := 4) rfl (v := .int .i64 _) rfl ?_
    obtain rfl := some_eq hM
    exact ⟨rfl, hS114⟩

theorem cg6 {m : Mem} {L : List Atom} {w : World} {a1 : Option Addr} {n2 c3 : Nat} {l5 : List Int} {most6 : Int} (hS : St w m L) (hr4 : RSl 1 (RIntK .u8) m a1 n2 c3 l5) {fuel : Nat} {r : Fleet} (hM : mg6 fuel l5 most6 = some r) : Calls P0 6 [.slice a1 n2 c3, .int .i64 most6].toArray w (Ret fun v w' => ∃ (m' : Mem) (a0 : Option Addr) (n0 : Nat) (c0 : Nat) (cs0 : List Value) (a1 : Option Addr) (n1 : Nat) (c1 : Nat) (cs1 : List Value), v = .agg #[.slice a0 n0 c0, .slice a1 n1 c1, .int .i64 r.cap, .int .i64 r.start, .int .i64 r.back] ∧ m ≤ m' ∧ n0 = r.stops.length ∧ RCs 5 RStop m' cs0 r.stops ∧ n1 = r.minutes.length ∧ RCs 1 (RS 1 RInt) m' cs1 r.minutes ∧ St w' m' (.row (.slice a0 n0 c0) 34 5 cs0 :: .row (.slice a1 n1 c1) 35 1 cs1 :: L)) := by
 rw [mg6] at hM
 obtain rfl := hr4.1
 refine enter Try.func6 rfl Try.ntmps6 (Nat.le_of_ble_eq_true rfl) ?_
 refine c_seq <| c_region <| wl_alloc ty26 rfl hS ?_
 intro b7 w8 hS9
 refine wl_nil <| c_seq <| c_region <| wl_h hS9.toHeld (r_move (v := .slice _ _ _) rfl) <| wl_h hS9.toHeld (r_build ty30 st30 (ps := [(0, [.slice _ _ _])]) rfl rfl (cs := [.slice _ _ _, .int .i64 _]) rfl) ?_
 refine wl_box hS9 (v := .agg #[.slice _ _ _, .int .i64 _]) rfl (cs := [.slice _ _ _, .int .i64 _]) rfl ?_
 intro b10 w11 hS12
 refine wl_h hS12.toHeld (r_assign (v := .pointer (some ⟨_, _, none⟩)) rfl) <| wl_nil <| c_seq <| c_region <| wl_h hS12.toHeld (r_move (v := .pointer (some ⟨_, _, none⟩)) rfl) ?_
 obtain ⟨r13, hq14, hM⟩ := bnd_ok hM
 refine wl_call ent7 (vals := [.pointer (some ⟨_, _, none⟩), .int .i64 _]) rfl (cg7 hS12 hr4 hq14) ?_
 rintro _ w16 ⟨rfl, hS17⟩
 obtain ⟨hc18, hM⟩ := chk_ok hM
 refine wl_h hS17.toHeld (r_add (a := _) (b := _) rfl rfl (ok_lo hc18) (ok_hi hc18)) <| wl_h hS17.toHeld (r_move (v := .pointer (some ⟨_, _, none⟩)) rfl) ?_
 obtain ⟨r19, hq20, hM⟩ := bnd_ok hM
 refine wl_call ent7 (vals := [.pointer (some ⟨_, _, none⟩), .int .i64 _]) rfl (cg7 hS17 hr4 hq20) ?_
 rintro _ w22 ⟨rfl, hS23⟩
 refine wl_h hS23.toHeld (r_move (v := .pointer (some ⟨_, _, none⟩)) rfl) ?_
 obtain ⟨r24, hq25, hM⟩ := bnd_ok hM
 refine wl_call ent7 (vals := [.pointer (some ⟨_, _, none⟩), .int .i64 _]) rfl (cg7 hS23 hr4 hq25) ?_
 rintro _ w27 ⟨rfl, hS28⟩
 obtain ⟨hc29, hM⟩ := chk_ok hM
 refine wl_h hS28.toHeld (r_mul (a := _) (b := _) rfl rfl (ok_lo hc29) (ok_hi hc29)) ?_
 obtain ⟨hc30, hM⟩ := chk_ok hM
 refine wl_h hS28.toHeld (r_add (a := _) (b := _) rfl rfl (ok_lo hc30) (ok_hi hc30)) <| wl_h hS28.toHeld (r_build ty26 st26 (ps := [(2, [.int .i64 _]), (3, [.int .i64 _]), (4, [.int .i64 _])]) rfl rfl (cs := [.slice _ _ _, .slice _ _ _, .int .i64 _, .int .i64 _, .int .i64 _]) rfl) <| wl_alloc ty26 rfl hS28 ?_
 intro b31 w32 hS33
 refine wl_store_box ty26 hS33 rfl (v := .agg #[.slice _ _ _, .slice _ _ _, .int .i64 _, .int .i64 _, .int .i64 _]) rfl (vs := [.slice _ _ _, .slice _ _ _, .int .i64 _, .int .i64 _, .int .i64 _]) rfl rfl rfl .here (cs' := [.slice _ _ _, .slice _ _ _, .int .i64 _, .int .i64 _, .int .i64 _]) rfl rfl ?_
 intro w34 hS35
 refine wl_nil <| c_seq <| c_region <| wl_h hS35.toHeld (r_move (v := .pointer (some ⟨_, _, none⟩)) rfl) <| wl_h hS35.toHeld (r_move (v := .int .i64 _) rfl) ?_
 have hS36 := hS35.front (.there .here)
 obtain ⟨r37, hq38, hM⟩ := bnd_ok hM
 refine wl_call ent7 (vals := [.pointer (some ⟨_, _, none⟩), .int .i64 _]) rfl (cg7 hS36 hr4 hq38) ?_
 rintro _ w40 ⟨rfl, hS41⟩
 obtain ⟨hc42, hM⟩ := chk_ok hM
 refine wl_h hS41.toHeld (r_add (a := _) (b := _) rfl rfl (ok_lo hc42) (ok_hi hc42)) <| wl_h hS41.toHeld (r_assign (v := .int .i64 _) rfl) <| wl_nil <| c_seq <| c_seq <| c_region <| wl_h hS41.toHeld (r_move (v := .int .i64 _) rfl) ?_
 refine wl_h hS41.toHeld (r_move (v := .int .i64 _) rfl) <| wl_nil <| c_block ?_
 have hS3024 := hS41.nilRow 34 5
 have hrc3025 : RCs 5 RStop m [] ([] : List Stop) := RCs.nil
 refine c_loop (fun k f w => ∃ (x3026 : Int) (y3027 : List Int) (y3032 : Int) (y3033 : Int) (y3034 : Int) (y3035 : Int) (l3036 : List Stop) (a3028 : Option Addr) (n3029 : Nat) (c3030 : Nat) (a3037 : Option Addr) (n3038 : Nat) (c3039 : Nat) (cs3040 : List Value), mg6_l0 fuel r37 k x3026 y3027 y3032 y3033 y3034 y3035 l3036 = some r ∧ RSl 1 (RIntK .u8) m a3028 n3029 c3030 y3027 ∧ n3038 = l3036.length ∧ RCs 5 RStop m cs3040 l3036 ∧ St w m (.row (.slice a3037 n3038 c3039) 34 5 cs3040 :: .box b10 30 [.slice a3028 n3029 c3030, .int .i64 y3032] :: .box b31 26 [.slice a3037 n3038 c3039, .slice none 0 0, .int .i64 y3033, .int .i64 y3034, .int .i64 y3035] :: .box b7 26 [.slice none 0 0, .slice none 0 0, .int .i64 0, .int .i64 0, .int .i64 0] :: L) ∧ f 4 = .pointer (some ⟨b7, 0, none⟩) ∧ f 5 = .pointer (some ⟨b10, 0, none⟩) ∧ f 6 = .pointer (some ⟨b31, 0, none⟩) ∧ f 7 = .int .i64 (1 + r37.1) ∧ f 29 = .int .i64 (1 + r37.1) ∧ f 30 = .int .i64 x3026) fuel ⟨0, l5, r37.2, 60 + r13.1, r19.1, 200 + (5 * r24.1), ([] : List Stop), a1, l5.length, c3, none, 0, 0, [], hM, hr4, row_n (hS3024.toHeld.own .here) hrc3025 (by decide), hrc3025, hS3024, rfl, rfl, rfl, rfl, rfl, rfl⟩ ?_
 rintro k_0 f3043 w3044 ⟨x3026, y3027, y3032, y3033, y3034, y3035, l3036, a3028, n3029, c3030, a3037, n3038, c3039, cs3040, hM, hr3031, hn3041, hrc3042, hS3046, e3047, e3048, e3049, e3050, e3051, e3052⟩
 obtain rfl := hr3031.1
 subst hn3041
 refine c_know (t := 4) e3047 <| c_know (t := 5) e3048 <| c_know (t := 6) e3049 <| c_know (t := 7) e3050 <| c_know (t := 29) e3051 ?_
 refine c_know (t := 30) e3052 ?_
 clear e3047 e3048 e3049 e3050 e3051 e3052
 rcases k_0 with _ | k_0
 · exact none_ne hM
 rw [mg6_l0] at hM
 refine c_seq <| c_region <| wl_h hS3046.toHeld (r_lss (a := _) (b := _) rfl rfl) <| wl_nil <| c_seq <| c_cond (c := _) rfl (fun h3053 => ?_) (fun h3053 => ?_)
 ·replace hM := bif_t h3053 hM
  refine c_skip <| c_seq <| c_block <| c_seq <| c_region <| wl_h hS3046.toHeld (r_move (v := .pointer (some ⟨_, _, none⟩)) rfl) ?_
  have hS3054 := hS3046.front (.there .here)
  obtain ⟨r3055, hq3056, hM⟩ := bnd_ok hM
  refine wl_call ent7 (vals := [.pointer (some ⟨_, _, none⟩), .int .i64 _]) rfl (cg7 hS3054 hr3031 hq3056) ?_
  rintro _ w3058 ⟨rfl, hS3059⟩
  refine wl_h hS3059.toHeld (r_move (v := .pointer (some ⟨_, _, none⟩)) rfl) ?_
  obtain ⟨r3060, hq3061, hM⟩ := bnd_ok hM
  refine wl_call ent7 (vals := [.pointer (some ⟨_, _, none⟩), .int .i64 _]) rfl (cg7 hS3059 hr3031 hq3061) ?_
  rintro _ w3063 ⟨rfl, hS3064⟩
  refine wl_h hS3064.toHeld (r_move (v := .pointer (some ⟨_, _, none⟩)) rfl) ?_
  obtain ⟨r3065, hq3066, hM⟩ := bnd_ok hM
  refine wl_call ent7 (vals := [.pointer (some ⟨_, _, none⟩), .int .i64 _]) rfl (cg7 hS3064 hr3031 hq3066) ?_
  rintro _ w3068 ⟨rfl, hS3069⟩
  refine wl_h hS3069.toHeld (r_move (v := .pointer (some ⟨_, _, none⟩)) rfl) ?_
  obtain ⟨r3070, hq3071, hM⟩ := bnd_ok hM
  refine wl_call ent7 (vals := [.pointer (some ⟨_, _, none⟩), .int .i64 _]) rfl (cg7 hS3069 hr3031 hq3071) ?_
  rintro _ w3073 ⟨rfl, hS3074⟩
  refine wl_h hS3074.toHeld (r_build ty34 st34 (ps := [(0, [.int .i64 _]), (1, [.int .i64 _]), (2, [.int .i64 _]), (4, [.int .i64 _])]) rfl rfl (cs := [.int .i64 _, .int .i64 _, .int .i64 _, .int .i64 _, .int .i64 _]) rfl) <| wl_alloc ty34 rfl hS3074 ?_
  intro b3075 w3076 hS3077
  refine wl_store_box ty34 hS3077 rfl (v := .agg #[.int .i64 _, .int .i64 _, .int .i64 _, .int .i64 _, .int .i64 _]) rfl (vs := [.int .i64 _, .int .i64 _, .int .i64 _, .int .i64 _, .int .i64 _]) rfl rfl rfl .here (cs' := [.int .i64 _, .int .i64 _, .int .i64 _, .int .i64 _, .int .i64 _]) rfl rfl ?_
  intro w3078 hS3079
  refine wl_nil <| c_seq ?_
  obtain ⟨r3099, hq3100, hM⟩ := bnd_ok hM
  obtain ⟨hc3105, hM⟩ := chk_ok hM
  obtain ⟨hc3106, hM⟩ := chk_ok hM
  have hH3110 := (hS3079.weaken (.cons _ (.cons _ (.cons_cons _ (.cons_cons _ (.cons_cons _ (.refl _))))))).toHeld
  refine c_drawJ (k := 8) (fun f w => St w m (.box b10 30 [.slice a3028 y3027.length c3030, .int .i64 r3099.2] :: .box b3075 34 [.int .i64 r3055.1, .int .i64 r3060.1, .int .i64 r3065.1, .int .i64 (r3065.1 + (3 * r3099.1)), .int .i64 r3070.1] :: .row (.slice a3037 l3036.length c3039) 34 5 cs3040 :: .box b31 26 [.slice a3037 l3036.length c3039, .slice none 0 0, .int .i64 y3033, .int .i64 y3034, .int .i64 y3035] :: .box b7 26 [.slice none 0 0, .slice none 0 0, .int .i64 0, .int .i64 0, .int .i64 0] :: L) ∧ f 4 = .pointer (some ⟨b7, 0, none⟩) ∧ f 5 = .pointer (some ⟨b10, 0, none⟩) ∧ f 6 = .pointer (some ⟨b31, 0, none⟩) ∧ f 7 = .int .i64 (1 + r37.1) ∧ f 8 = .pointer (some ⟨b3075, 0, none⟩) ∧ f 29 = .int .i64 (1 + r37.1) ∧ f 30 = .int .i64 x3026) (fun w => Held w m (.row (.slice a3037 l3036.length c3039) 34 5 cs3040 :: .box b31 26 [.slice a3037 l3036.length c3039, .slice none 0 0, .int .i64 y3033, .int .i64 y3034, .int .i64 y3035] :: .box b7 26 [.slice none 0 0, .slice none 0 0, .int .i64 0, .int .i64 0, .int .i64 0] :: L)) mixed rfl ?_ ?_
  ·replace hH3110 := hH3110.drew1
   have hS3111 := hS3079.drew1
   refine d_v (i := 0) rfl (by kernel_rfl) rfl (r_fieldAddr fld34_2 (b := _) (o := _) rfl) hH3110 ?_
   refine d_v (i := 2) rfl (by kernel_rfl) rfl (r_move (v := .pointer (some ⟨_, _, none⟩)) rfl) hH3110 ?_
   refine d_all (rs := [1, 3]) (by kernel_rfl) (by simp) (fun j hj o ho => ?_)
   simp only [List.mem_cons, List.not_mem_nil, or_false] at hj
   rcases hj with rfl | rfl
   ·cases ho
    refine wl_h hS3111.toHeld (r_box ty3 (k := 2) .here rfl rfl rfl (v := .int .i64 _) rfl) <| wl_nil ?_
    have hH3112 := hS3111.toHeld.mono (Mem.le_refl _) (List.Sublist.subset (.cons _ (.cons _ (.cons_cons _ (.cons_cons _ (.cons_cons _ (.refl _)))))))
    refine ⟨hH3112, ?_⟩
    refine d_all (rs := [3]) (by kernel_rfl) (by simp) (fun j hj o ho => ?_)
    obtain rfl : j = 3 := by simpa using hj
    cases ho
    have hS3113 := hS3111.front (.there .here)
    refine wl_call ent7 (vals := [.pointer (some ⟨_, _, none⟩), .int .i64 _]) rfl (cg7 hS3113 hr3031 hq3100) ?_
    rintro _ w3115 ⟨rfl, hS3116⟩
    refine wl_nil ?_
    have hH3117 := hS3116.toHeld.mono (Mem.le_refl _) (List.Sublist.subset (.cons _ (.cons _ (.cons_cons _ (.cons_cons _ (.cons_cons _ (.refl _)))))))
    refine ⟨hH3117, ?_⟩
    refine d_v (i := 4) rfl (by kernel_rfl) rfl (r_mul (a := _) (b := _) rfl rfl (ok_lo hc3105) (ok_hi hc3105)) hH3117 ?_
    refine d_v (i := 5) rfl (by kernel_rfl) rfl (r_add (a := _) (b := _) rfl rfl (ok_lo hc3106) (ok_hi hc3106)) hH3117 ?_
    refine d_v (i := 6) rfl (by kernel_rfl) rfl (r_fieldAddr fld34_3 (b := _) (o := _) rfl) hH3117 ?_
    refine d_all (rs := [7]) (by kernel_rfl) (by simp) (fun j hj o ho => ?_)
    obtain rfl : j = 7 := by simpa using hj
    cases ho
    refine wl_store_box ty3 hS3116 rfl (v := .int .i64 _) rfl (vs := [.int .i64 _]) rfl rfl rfl (.there .here) (cs' := [.int .i64 _, .int .i64 _, .int .i64 _, .int .i64 _, .int .i64 _]) rfl rfl ?_
    intro w3118 hS3119
    refine wl_nil ?_
    have hH3120 := hS3119.toHeld.mono (Mem.le_refl _) (List.Sublist.subset (.cons _ (.cons _ (.cons_cons _ (.cons_cons _ (.cons_cons _ (.refl _)))))))
    refine ⟨hH3120, ?_⟩
    refine d_end (by kernel_rfl) ?_
    exact ⟨hS3119, rfl, rfl, rfl, rfl, rfl, rfl, rfl⟩
   ·cases ho
    have hS3121 := hS3111.front (.there .here)
    refine wl_call ent7 (vals := [.pointer (some ⟨_, _, none⟩), .int .i64 _]) rfl (cg7 hS3121 hr3031 hq3100) ?_
    rintro _ w3123 ⟨rfl, hS3124⟩
    refine wl_nil ?_
    have hH3125 := hS3124.toHeld.mono (Mem.le_refl _) (List.Sublist.subset (.cons _ (.cons _ (.cons_cons _ (.cons_cons _ (.cons_cons _ (.refl _)))))))
    refine ⟨hH3125, ?_⟩
    refine d_v (i := 4) rfl (by kernel_rfl) rfl (r_mul (a := _) (b := _) rfl rfl (ok_lo hc3105) (ok_hi hc3105)) hH3125 ?_
    refine d_all (rs := [1]) (by kernel_rfl) (by simp) (fun j hj o ho => ?_)
    obtain rfl : j = 1 := by simpa using hj
    cases ho
    refine wl_h hS3124.toHeld (r_box ty3 (k := 2) (.there .here) rfl rfl rfl (v := .int .i64 _) rfl) <| wl_nil ?_
    have hH3126 := hS3124.toHeld.mono (Mem.le_refl _) (List.Sublist.subset (.cons _ (.cons _ (.cons_cons _ (.cons_cons _ (.cons_cons _ (.refl _)))))))
    refine ⟨hH3126, ?_⟩
    refine d_v (i := 5) rfl (by kernel_rfl) rfl (r_add (a := _) (b := _) rfl rfl (ok_lo hc3106) (ok_hi hc3106)) hH3126 ?_
    refine d_v (i := 6) rfl (by kernel_rfl) rfl (r_fieldAddr fld34_3 (b := _) (o := _) rfl) hH3126 ?_
    refine d_all (rs := [7]) (by kernel_rfl) (by simp) (fun j hj o ho => ?_)
    obtain rfl : j = 7 := by simpa using hj
    cases ho
    refine wl_store_box ty3 hS3124 rfl (v := .int .i64 _) rfl (vs := [.int .i64 _]) rfl rfl rfl (.there .here) (cs' := [.int .i64 _, .int .i64 _, .int .i64 _, .int .i64 _, .int .i64 _]) rfl rfl ?_
    intro w3127 hS3128
    refine wl_nil ?_
    have hH3129 := hS3128.toHeld.mono (Mem.le_refl _) (List.Sublist.subset (.cons _ (.cons _ (.cons_cons _ (.cons_cons _ (.cons_cons _ (.refl _)))))))
    refine ⟨hH3129, ?_⟩
    refine d_end (by kernel_rfl) ?_
    exact ⟨hS3128, rfl, rfl, rfl, rfl, rfl, rfl, rfl⟩
  ·rintro f3138 w3139 ⟨hS3130, e3131, e3132, e3133, e3134, e3135, e3136, e3137⟩
   refine c_know (t := 4) e3131 <| c_know (t := 5) e3132 <| c_know (t := 6) e3133 <| c_know (t := 7) e3134 <| c_know (t := 8) e3135 ?_
   refine c_know (t := 29) e3136 <| c_know (t := 30) e3137 ?_
   clear e3131 e3132 e3133 e3134 e3135 e3136 e3137
   refine c_region <| wl_h hS3130.toHeld (r_fieldAddr fld26_0 (b := _) (o := _) rfl) <| wl_h hS3130.toHeld (r_box ty23 (k := 0) (.there (.there (.there .here))) rfl rfl rfl (v := .slice _ _ _) rfl) <| wl_h hS3130.toHeld (r_box ty34 (k := 0) (.there .here) rfl rfl rfl (v := .agg #[.int .i64 _, .int .i64 _, .int .i64 _, .int .i64 _, .int .i64 _]) rfl) <| wl_buildSlice Try.underlying23 ty34 rfl (by decide) (by decide) hS3130 (ps := [(0, [.int .i64 _, .int .i64 _, .int .i64 _, .int .i64 _, .int .i64 _])]) rfl rfl (cs := [.int .i64 _, .int .i64 _, .int .i64 _, .int .i64 _, .int .i64 _]) rfl rfl (by decide) ?_
   intro b3141 w3142 hS3143
   have hrc3144 : RCs 5 RStop m [.int .i64 r3055.1, .int .i64 r3060.1, .int .i64 r3065.1, .int .i64 (r3065.1 + (3 * r3099.1)), .int .i64 r3070.1] ([(⟨r3055.1, r3060.1, r3065.1, r3065.1 + (3 * r3099.1), r3070.1⟩ : Stop)] : List Stop) := (RCs.cons (d := [.int .i64 r3055.1, .int .i64 r3060.1, .int .i64 r3065.1, .int .i64 (r3065.1 + (3 * r3099.1)), .int .i64 r3070.1]) rfl rfl RCs.nil)
   obtain ⟨hc3145, hM⟩ := chk_ok hM
   refine wl_append_src Try.underlying23 ty34 rfl (by decide) hS3143 (a := _) (nn := _) (c := _) rfl (a2 := _) (k2 := _) (c2 := _) rfl (.there (.there (.there .here))) (row_src (hS3143.toHeld.own .here) (RCs.allOne RStop.one (by decide) hrc3144)) (lim_b hc3145 rfl) (lim_a hc3145) ?_
   intro a3146 c3147 w3148 hS3149
   have hrc3151 := RCs.append hrc3042 hrc3144
   generalize cs3040 ++ [.int .i64 r3055.1, .int .i64 r3060.1, .int .i64 r3065.1, .int .i64 (r3065.1 + (3 * r3099.1)), .int .i64 r3070.1] = cs3152 at hS3149 hrc3151
   have hS3153 := hS3149.weaken (.cons_cons _ (.cons _ (.cons_cons _ (.cons_cons _ (.cons_cons _ (.cons_cons _ (.refl _)))))))
   refine wl_h hS3153.toHeld (r_fieldAddr fld26_0 (b := _) (o := _) rfl) <| wl_store_box ty23 hS3153 rfl (v := .slice _ _ _) rfl (vs := [.slice _ _ _]) rfl rfl rfl (.there (.there (.there .here))) (cs' := [.slice _ _ _, .slice _ _ _, .int .i64 _, .int .i64 _, .int .i64 _]) rfl rfl ?_
   intro w3154 hS3155
   refine wl_nil <| c_nil <| q_norm <| c_region ?_
   obtain ⟨hc3156, hM⟩ := chk_ok hM
   refine wl_h hS3155.toHeld (r_add (a := _) (b := _) rfl rfl (ok_lo hc3156) (ok_hi hc3156)) <| wl_h hS3155.toHeld (r_move (v := .int .i64 _) rfl) <| wl_nil <| c_nil <| q_loop ?_
   have hS3157 := hS3155.weaken (.cons_cons _ (.cons_cons _ (.cons _ (.cons_cons _ (.cons_cons _ (.refl _))))))
   exact ⟨k_0, Nat.lt_succ_self _, x3026 + 1, y3027, r3099.2, y3033, y3034, y3035, (l3036 ++ [(⟨r3055.1, r3060.1, r3065.1, r3065.1 + (3 * r3099.1), r3070.1⟩ : Stop)]), a3028, y3027.length, c3030, a3146, (l3036.length + 1), c3147, cs3152, hM, hr3031, row_n (hS3157.toHeld.own .here) hrc3151 (by decide), hrc3151, hS3157, rfl, rfl, rfl, rfl, rfl, rfl⟩
 ·replace hM := bif_f h3053 hM
  refine c_exit <| q_loopx <| q_hit <| c_seq <| c_seq <| c_region <| wl_h hS3046.toHeld (r_move (v := .int .i64 _) rfl) ?_
  obtain ⟨hc3158, hM⟩ := chk_ok hM
  refine wl_h hS3046.toHeld (r_add (a := _) (b := _) rfl rfl (ok_lo hc3158) (ok_hi hc3158)) <| wl_h hS3046.toHeld (r_move (v := .int .i64 _) rfl) <| wl_nil <| c_block ?_
  have hS3802 := hS3046.nilRow 35 1
  have hrc3803 : RCs 1 (RS 1 RInt) m [] ([] : List (List Int)) := RCs.nil
  refine c_loop (fun k f w => ∃ (x3807 : Int) (y3808 : List Int) (y3813 : Int) (y3814 : Int) (y3815 : Int) (y3816 : Int) (l3817 : List (List Int)) (m3804 : Mem) (a3809 : Option Addr) (n3810 : Nat) (c3811 : Nat) (a3818 : Option Addr) (n3819 : Nat) (c3820 : Nat) (cs3821 : List Value), mg6_l1 fuel r37 l3036 k x3807 y3808 y3813 y3814 y3815 y3816 l3817 = some r ∧ m ≤ m3804 ∧ RSl 1 (RIntK .u8) m3804 a3809 n3810 c3811 y3808 ∧ n3819 = l3817.length ∧ RCs 1 (RS 1 RInt) m3804 cs3821 l3817 ∧ St w m3804 (.row (.slice a3818 n3819 c3820) 35 1 cs3821 :: .row (.slice a3037 l3036.length c3039) 34 5 cs3040 :: .box b10 30 [.slice a3809 n3810 c3811, .int .i64 y3813] :: .box b31 26 [.slice a3037 l3036.length c3039, .slice a3818 n3819 c3820, .int .i64 y3814, .int .i64 y3815, .int .i64 y3816] :: .box b7 26 [.slice none 0 0, .slice none 0 0, .int .i64 0, .int .i64 0, .int .i64 0] :: L) ∧ f 4 = .pointer (some ⟨b7, 0, none⟩) ∧ f 5 = .pointer (some ⟨b10, 0, none⟩) ∧ f 6 = .pointer (some ⟨b31, 0, none⟩) ∧ f 7 = .int .i64 (1 + r37.1) ∧ f 56 = .int .i64 ((1 + r37.1) + 1) ∧ f 57 = .int .i64 x3807) fuel ⟨0, y3027, y3032, y3033, y3034, y3035, ([] : List (List Int)), m, a3028, y3027.length, c3030, none, 0, 0, [], hM, Mem.le_refl _, hr3031, row_n (hS3802.toHeld.own .here) hrc3803 (by decide), hrc3803, hS3802, rfl, rfl, rfl, rfl, rfl, rfl⟩ ?_
  rintro k_1 f3824 w3825 ⟨x3807, y3808, y3813, y3814, y3815, y3816, l3817, m3804, a3809, n3810, c3811, a3818, n3819, c3820, cs3821, hM, hm3805, hr3812, hn3822, hrc3823, hS3827, e3828, e3829, e3830, e3831, e3832, e3833⟩
  replace hr4 := RSl.mono RIntK.mono hr4 hm3805
  replace hrc3025 := RCs.mono RStop.mono hrc3025 hm3805
  replace hr3031 := RSl.mono RIntK.mono hr3031 hm3805
  replace hrc3042 := RCs.mono RStop.mono hrc3042 hm3805
  replace hrc3803 := RCs.mono (RS.mono RInt.mono) hrc3803 hm3805
  have le3806 := hm3805
  obtain rfl := hr3812.1
  subst hn3822
  refine c_know (t := 4) e3828 <| c_know (t := 5) e3829 <| c_know (t := 6) e3830 <| c_know (t := 7) e3831 <| c_know (t := 56) e3832 ?_
  refine c_know (t := 57) e3833 ?_
  clear e3828 e3829 e3830 e3831 e3832 e3833
  rcases k_1 with _ | k_1
  · exact none_ne hM
  rw [mg6_l1] at hM
  refine c_seq <| c_region <| wl_h hS3827.toHeld (r_lss (a := _) (b := _) rfl rfl) <| wl_nil <| c_seq <| c_cond (c := _) rfl (fun h3834 => ?_) (fun h3834 => ?_)
  ·replace hM := bif_t h3834 hM
   refine c_skip <| c_seq <| c_block <| c_seq <| c_region <| wl_h hS3827.toHeld (r_move (v := .int .i64 _) rfl) ?_
   refine wl_h hS3827.toHeld (r_assign (v := .int .i64 _) rfl) <| wl_nil <| c_seq <| c_region <| wl_h hS3827.toHeld (r_move (v := .int .i64 _) rfl) ?_
   obtain ⟨hc3835, hM⟩ := chk_ok hM
   refine wl_h hS3827.toHeld (r_add (a := _) (b := _) rfl rfl (ok_lo hc3835) (ok_hi hc3835)) ?_
   obtain ⟨hc3838, hM⟩ := chk_ok hM
   refine wl_makeSlice Try.underlying35 ty3 rfl (by decide) hS3827 (l := _) (c := _) rfl rfl (mk_0 hc3838) (mk_1 hc3838) (mk_2 hc3838 (by decide)) (mk_3 hc3838) ?_
   intro b3836 w3837 hS3839
   have hrc3841 : RCs 1 RInt m3804 (reps [.int .i64 0] ((1 + r37.1) + 1).toNat) ((List.replicate ((1 + r37.1) + 1).toNat 0 : List Int) : List Int) := RCs.reps rfl rfl _
   refine wl_h hS3839.toHeld (r_assign (v := .slice _ _ _) rfl) <| wl_nil <| c_seq <| c_seq <| c_region <| wl_h hS3839.toHeld (r_move (v := .slice _ _ _) rfl) ?_
   refine wl_h hS3839.toHeld (r_len Try.underlying35 (a := _) (n := _) (c := _) rfl) <| wl_h hS3839.toHeld (r_move (v := .int .i64 _) rfl) <| wl_nil <| c_block <| c_loop (fun k f w => ∃ (x3948 : Int) (y3949 : List Int) (y3954 : Int) (l3955 : List Int) (a3950 : Option Addr) (n3951 : Nat) (c3952 : Nat) (a3956 : Option Addr) (n3957 : Nat) (c3958 : Nat) (cs3959 : List Value), mg6_l2 fuel r37 x3807 y3814 y3815 y3816 l3817 (mg6_l1 fuel r37 l3036 k_1) k x3948 y3949 y3954 l3955 = some r ∧ RSl 1 (RIntK .u8) m3804 a3950 n3951 c3952 y3949 ∧ n3957 = l3955.length ∧ RCs 1 RInt m3804 cs3959 l3955 ∧ St w m3804 (.row (.slice a3956 n3957 c3958) 3 1 cs3959 :: .row (.slice a3818 l3817.length c3820) 35 1 cs3821 :: .row (.slice a3037 l3036.length c3039) 34 5 cs3040 :: .box b10 30 [.slice a3950 n3951 c3952, .int .i64 y3954] :: .box b31 26 [.slice a3037 l3036.length c3039, .slice a3818 l3817.length c3820, .int .i64 y3814, .int .i64 y3815, .int .i64 y3816] :: .box b7 26 [.slice none 0 0, .slice none 0 0, .int .i64 0, .int .i64 0, .int .i64 0] :: L) ∧ f 4 = .pointer (some ⟨b7, 0, none⟩) ∧ f 5 = .pointer (some ⟨b10, 0, none⟩) ∧ f 6 = .pointer (some ⟨b31, 0, none⟩) ∧ f 7 = .int .i64 (1 + r37.1) ∧ f 9 = .int .i64 x3807 ∧ f 10 = .slice a3956 n3957 c3958 ∧ f 56 = .int .i64 ((1 + r37.1) + 1) ∧ f 57 = .int .i64 x3807 ∧ f 64 = .int .i64 ((((1 + r37.1) + 1).toNat : Nat) : Int) ∧ f 65 = .int .i64 x3948) fuel ⟨0, y3808, y3813, (List.replicate ((1 + r37.1) + 1).toNat 0 : List Int), a3809, y3808.length, c3811, (some ⟨b3836, 0, none⟩), ((1 + r37.1) + 1).toNat, ((1 + r37.1) + 1).toNat, reps [.int .i64 0] ((1 + r37.1) + 1).toNat, hM, hr3812, row_n (hS3839.toHeld.own .here) hrc3841 (by decide), hrc3841, hS3839, rfl, rfl, rfl, rfl, rfl, rfl, rfl, rfl, rfl, rfl⟩ ?_
   rintro k_2 f3962 w3963 ⟨x3948, y3949, y3954, l3955, a3950, n3951, c3952, a3956, n3957, c3958, cs3959, hM, hr3953, hn3960, hrc3961, hS3965, e3966, e3967, e3968, e3969, e3970, e3971, e3972, e3973, e3974, e3975⟩
   obtain rfl := hr3953.1
   subst hn3960
   refine c_know (t := 4) e3966 <| c_know (t := 5) e3967 <| c_know (t := 6) e3968 <| c_know (t := 7) e3969 <| c_know (t := 9) e3970 ?_
   refine c_know (t := 10) e3971 <| c_know (t := 56) e3972 <| c_know (t := 57) e3973 <| c_know (t := 64) e3974 <| c_know (t := 65) e3975 ?_
   clear e3966 e3967 e3968 e3969 e3970 e3971 e3972 e3973 e3974 e3975
   rcases k_2 with _ | k_2
   · exact none_ne hM
   rw [mg6_l2] at hM
   refine c_seq <| c_region <| wl_h hS3965.toHeld (r_lss (a := _) (b := _) rfl rfl) <| wl_nil <| c_seq <| c_cond (c := _) rfl (fun h3976 => ?_) (fun h3976 => ?_)
   ·replace hM := bif_t h3976 hM
    refine c_skip <| c_seq <| c_block <| c_seq <| c_region <| wl_h hS3965.toHeld (r_move (v := .int .i64 _) rfl) ?_
    refine wl_h hS3965.toHeld (r_assign (v := .int .i64 _) rfl) <| wl_nil <| c_seq <| c_region <| wl_h hS3965.toHeld (r_move (v := .int .i64 _) rfl) ?_
    refine wl_h hS3965.toHeld (r_move (v := .int .i64 _) rfl) <| wl_h hS3965.toHeld (r_neq (a := _) (b := _) rfl rfl) <| wl_nil <| c_cond (c := _) rfl (fun h3977 => ?_) (fun h3977 => ?_)
    ·replace hM := bif_t h3977 hM
     refine c_region <| wl_h hS3965.toHeld (r_move (v := .slice _ _ _) rfl) <| wl_h hS3965.toHeld (r_move (v := .int .i64 _) rfl) <| wl_h hS3965.toHeld (r_move (v := .pointer (some ⟨_, _, none⟩)) rfl) ?_
     have hS3978 := hS3965.front (.there (.there (.there .here)))
     obtain ⟨r3979, hq3980, hM⟩ := bnd_ok hM
     refine wl_call ent7 (vals := [.pointer (some ⟨_, _, none⟩), .int .i64 _]) rfl (cg7 hS3978 hr3953 hq3980) ?_
     rintro _ w3982 ⟨rfl, hS3983⟩
     obtain ⟨hc3984, hM⟩ := chk_ok hM
     refine wl_h hS3983.toHeld (r_add (a := _) (b := _) rfl rfl (ok_lo hc3984) (ok_hi hc3984)) ?_
     obtain ⟨x3985, hx3986, h3987, h3988, hM⟩ := getK_ok hM
     obtain ⟨b3989, rfl⟩ := row_some (hS3983.toHeld.own (.there .here)) hrc3961 (by decide) h3987 h3988
     obtain ⟨es3990, hes3991, hR3992⟩ := row_read hrc3961 hx3986
     obtain rfl := hR3992
     refine wl_h hS3983.toHeld (r_indexAddr Try.underlying35 ty3 (b := _) (o := _) (n := _) (c := _) (i := x3948) rfl rfl h3987 (row_lt (hS3983.toHeld.own (.there .here)) hrc3961 (by decide) h3988)) <| wl_store_row ty3 hS3983 rfl (v := .int .i64 _) rfl (vs := [.int .i64 _]) rfl rfl rfl (.there .here) (Nat.le_trans (by simp only [Nat.zero_add]; omega) (row_room hrc3961 hx3986)) ?_
     intro w3993 hS3994
     have hrc3995 := RCs.seti hrc3961 hx3986 (vs := [.int .i64 (1 + r3979.1)]) (y := 1 + r3979.1) rfl rfl
     generalize spl cs3959 (0 + x3948.toNat * 1) [.int .i64 (1 + r3979.1)] = cs3996 at hS3994 hrc3995
     refine wl_nil <| c_nil <| q_norm <| c_region ?_
     obtain ⟨hc3997, hM⟩ := chk_ok hM
     refine wl_h hS3994.toHeld (r_add (a := _) (b := _) rfl rfl (ok_lo hc3997) (ok_hi hc3997)) <| wl_h hS3994.toHeld (r_move (v := .int .i64 _) rfl) <| wl_nil <| c_nil <| q_loop ?_
     have hS3998 := hS3994.front (.there (.there (.there (.there (.there .here)))))
     have hS3999 := hS3998.front (.there (.there (.there (.there (.there .here)))))
     have hS4000 := hS3999.front (.there (.there .here))
     have hS4001 := hS4000.front (.there (.there (.there (.there (.there .here)))))
     have hS4002 := hS4001.front (.there (.there (.there (.there (.there .here)))))
     have hS4003 := hS4002.front (.there (.there (.there (.there (.there .here)))))
     exact ⟨k_2, Nat.lt_succ_self _, x3948 + 1, y3949, r3979.2, (l3955.set x3948.toNat (1 + r3979.1)), a3950, y3949.length, c3952, (some ⟨b3989, 0, none⟩), l3955.length, c3958, cs3996, hM, hr3953, row_n (hS4003.toHeld.own .here) hrc3995 (by decide), hrc3995, hS4003, rfl, rfl, rfl, rfl, rfl, rfl, rfl, rfl, rfl, rfl⟩
    ·replace hM := bif_f h3977 hM
     refine c_skip <| c_nil <| q_norm <| c_region ?_
     obtain ⟨hc4004, hM⟩ := chk_ok hM
     refine wl_h hS3965.toHeld (r_add (a := _) (b := _) rfl rfl (ok_lo hc4004) (ok_hi hc4004)) <| wl_h hS3965.toHeld (r_move (v := .int .i64 _) rfl) <| wl_nil <| c_nil <| q_loop ?_
     exact ⟨k_2, Nat.lt_succ_self _, x3948 + 1, y3949, y3954, l3955, a3950, y3949.length, c3952, a3956, l3955.length, c3958, cs3959, hM, hr3953, row_n (hS3965.toHeld.own .here) hrc3961 (by decide), hrc3961, hS3965, rfl, rfl, rfl, rfl, rfl, rfl, rfl, rfl, rfl, rfl⟩
   ·replace hM := bif_f h3976 hM
    refine c_exit <| q_loopx <| q_hit <| c_region <| wl_h hS3965.toHeld (r_fieldAddr fld26_1 (b := _) (o := _) rfl) ?_
    refine wl_h hS3965.toHeld (r_box ty24 (k := 1) (.there (.there (.there (.there .here)))) rfl rfl rfl (v := .slice _ _ _) rfl) <| wl_h hS3965.toHeld (r_move (v := .slice _ _ _) rfl) ?_
    obtain ⟨m4005, hm4006, hS4007, hr4008⟩ := hS3965.freezeR .here hrc3961 RInt.mono (by decide)
    have le4010 := Mem.le_trans le3806 hm4006
    replace hr4 := RSl.mono RIntK.mono hr4 hm4006
    replace hrc3025 := RCs.mono RStop.mono hrc3025 hm4006
    replace hr3031 := RSl.mono RIntK.mono hr3031 hm4006
    replace hrc3042 := RCs.mono RStop.mono hrc3042 hm4006
    replace hrc3803 := RCs.mono (RS.mono RInt.mono) hrc3803 hm4006
    replace hr3812 := RSl.mono RIntK.mono hr3812 hm4006
    replace hrc3823 := RCs.mono (RS.mono RInt.mono) hrc3823 hm4006
    replace hrc3841 := RCs.mono RInt.mono hrc3841 hm4006
    replace hr3953 := RSl.mono RIntK.mono hr3953 hm4006
    replace hrc3961 := RCs.mono RInt.mono hrc3961 hm4006
    refine wl_buildSlice Try.underlying24 ty35 rfl (by decide) (by decide) hS4007 (ps := [(0, [.slice _ _ _])]) rfl rfl (cs := [.slice _ _ _]) rfl rfl (by decide) ?_
    intro b4012 w4013 hS4014
    have hrc4015 : RCs 1 (RS 1 RInt) m4005 [.slice a3956 l3955.length c3958] ([l3955] : List (List Int)) := (RCs.cons (d := [.slice a3956 l3955.length c3958]) rfl ⟨_, _, _, rfl, hr4008⟩ RCs.nil)
    obtain ⟨hc4016, hM⟩ := chk_ok hM
    refine wl_append_src Try.underlying24 ty35 rfl (by decide) hS4014 (a := _) (nn := _) (c := _) rfl (a2 := _) (k2 := _) (c2 := _) rfl (.there .here) (row_src (hS4014.toHeld.own .here) (RCs.allOne RS.one (by decide) hrc4015)) (lim_b hc4016 rfl) (lim_a hc4016) ?_
    intro a4017 c4018 w4019 hS4020
    have hrc4022 := RCs.append hrc3823 hrc4015
    generalize cs3821 ++ [.slice a3956 l3955.length c3958] = cs4023 at hS4020 hrc4022
    have hS4024 := hS4020.weaken (.cons_cons _ (.cons _ (.cons_cons _ (.cons_cons _ (.cons_cons _ (.cons_cons _ (.refl _)))))))
    refine wl_h hS4024.toHeld (r_fieldAddr fld26_1 (b := _) (o := _) rfl) <| wl_store_box ty24 hS4024 rfl (v := .slice _ _ _) rfl (vs := [.slice _ _ _]) rfl rfl rfl (.there (.there (.there .here))) (cs' := [.slice _ _ _, .slice _ _ _, .int .i64 _, .int .i64 _, .int .i64 _]) rfl rfl ?_
    intro w4025 hS4026
    refine wl_nil <| c_nil <| q_norm <| c_region ?_
    obtain ⟨hc4027, hM⟩ := chk_ok hM
    refine wl_h hS4026.toHeld (r_add (a := _) (b := _) rfl rfl (ok_lo hc4027) (ok_hi hc4027)) <| wl_h hS4026.toHeld (r_move (v := .int .i64 _) rfl) <| wl_nil <| c_nil <| q_loop ?_
    exact ⟨k_1, Nat.lt_succ_self _, x3807 + 1, y3949, y3954, y3814, y3815, y3816, (l3817 ++ [l3955]), m4005, a3950, y3949.length, c3952, a4017, (l3817.length + 1), c4018, cs4023, hM, le4010, hr3953, row_n (hS4026.toHeld.own .here) hrc4022 (by decide), hrc4022, hS4026, rfl, rfl, rfl, rfl, rfl, rfl⟩
  ·replace hM := bif_f h3834 hM
   refine c_exit <| q_loopx <| q_hit <| c_seq <| c_region <| wl_h hS3827.toHeld (r_box ty26 (k := 0) (.there (.there (.there .here))) rfl rfl rfl (v := .agg #[.slice _ _ _, .slice _ _ _, .int .i64 _, .int .i64 _, .int .i64 _]) rfl) ?_
   refine wl_store_box ty26 hS3827 rfl (v := .agg #[.slice _ _ _, .slice _ _ _, .int .i64 _, .int .i64 _, .int .i64 _]) rfl (vs := [.slice _ _ _, .slice _ _ _, .int .i64 _, .int .i64 _, .int .i64 _]) rfl rfl rfl (.there (.there (.there (.there .here)))) (cs' := [.slice _ _ _, .slice _ _ _, .int .i64 _, .int .i64 _, .int .i64 _]) rfl rfl ?_
   intro w4028 hS4029
   refine wl_nil <| c_ret <| ret_many rfl (.cell (v := .agg #[.slice _ _ _, .slice _ _ _, .int .i64 _, .int .i64 _, .int .i64 _]) rfl (ty26.run_loadVar (cs := [.slice _ _ _, .slice _ _ _, .int .i64 _, .int .i64 _, .int .i64 _]) (box_at (hS4029.toHeld.own (.there (.there (.there (.there .here)))))) rfl) .nil) ?_
   obtain rfl := some_eq hM
   have hS4030 := hS4029.weaken (.cons_cons _ (.cons_cons _ (.cons _ (.cons _ (.cons _ (.refl _))))))
   have hS4031 := hS4030.front (.there .here)
   exact ⟨m3804, a3037, l3036.length, c3039, cs3040, a3818, l3817.length, c3820, cs3821, rfl, le3806, row_n (hS4031.toHeld.own .here) hrc3042 (by decide), hrc3042, row_n (hS4031.toHeld.own (.there .here)) hrc3823 (by decide), hrc3823, hS4031⟩

theorem cg83 {m : Mem} {L : List Atom} {w : World} {a1 : Option Addr} {n2 c3 : Nat} {cs4 : List Value} {s6 : List Int}  (hS : St w m (.row (.slice a1 n2 c3) 3 1 cs4 :: L)) (hr5 : RCs 1 RInt m cs4 s6) {fuel : Nat} {r : (List Int)} (hM : mg83 fuel s6 = some r) : Calls P0 83 [.slice a1 n2 c3].toArray w (Ret fun v w' => ∃ (cs0 : List Value), v = .tuple #[] ∧ n2 = r.length ∧ RCs 1 RInt m cs0 r ∧ St w' m (.row (.slice a1 n2 c3) 3 1 cs0 :: L)) := by
 rw [mg83] at hM
 obtain rfl := row_n (hS.toHeld.own .here) hr5 (by decide)
 refine enter Try.func83 rfl Try.ntmps83 (Nat.le_of_ble_eq_true rfl) ?_
 refine c_seq <| c_region <| wl_h hS.toHeld (r_move (v := .slice _ _ _) rfl) <| wl_h hS.toHeld (r_len Try.underlying35 (a := _) (n := _) (c := _) rfl) ?_
 obtain ⟨hc7, hM⟩ := chk_ok hM
 refine wl_h hS.toHeld (r_sub (a := _) (b := _) rfl rfl (ok_lo hc7) (ok_hi hc7)) <| wl_h hS.toHeld (r_assign (v := .int .i64 _) rfl) <| wl_h hS.toHeld (r_assign (v := .int .i64 _) rfl) <| wl_nil <| c_block <| c_loop (fun k f w => ∃ (i214 : Int) (j215 : Int) (l216 : List Int) (cs217 : List Value), mg83_l0 fuel  k i214 j215 l216 = some r ∧ s6.length = l216.length ∧ RCs 1 RInt m cs217 l216 ∧ St w m (.row (.slice a1 s6.length c3) 3 1 cs217 :: L) ∧ f 0 = .slice a1 s6.length c3 ∧ f 2 = .int .i64 i214 ∧ f 3 = .int .i64 j215) fuel ⟨0, ((s6.length : Nat) : Int) - 1, s6, cs4, hM, row_n (hS.toHeld.own .here) hr5 (by decide), hr5, hS, rfl, rfl, rfl⟩ ?_
 rintro k_0 f220 w221 ⟨i214, j215, l216, cs217, hM, hn218, hrc219, hS223, e224, e225, e226⟩
 refine c_know (t := 0) e224 <| c_know (t := 2) e225 <| c_know (t := 3) e226 ?_
 clear e224 e225 e226
 rcases k_0 with _ | k_0
 · exact none_ne hM
 rw [mg83_l0] at hM
 refine c_seq <| c_seq <| c_region <| wl_h hS223.toHeld (r_move (v := .int .i64 _) rfl) <| wl_h hS223.toHeld (r_move (v := .int .i64 _) rfl) ?_
 refine wl_h hS223.toHeld (r_lss (a := _) (b := _) rfl rfl) <| wl_nil <| c_cond (c := _) rfl (fun h227 => ?_) (fun h227 => ?_)
 ·replace hM := bif_t h227 hM
  refine c_skip <| c_seq <| c_block ?_
  obtain ⟨x230, hx231, h232, h233, hM⟩ := getK_ok hM
  obtain ⟨x238, hx239, h240, h241, hM⟩ := getK_ok hM
  obtain ⟨x247, hx248, h249, h250, hM⟩ := getK_ok hM
  obtain ⟨x259, hx260, h261, h262, hM⟩ := getK_ok hM
  have hH273 := (hS223.weaken (.cons _ (.refl _))).toHeld
  refine c_drawJ (k := 16) (fun f w => ∃ (cs271 : List Value), RCs 1 RInt m cs271 ((l216.set i214.toNat x230).set j215.toNat x238) ∧ St w m (.row (.slice a1 s6.length c3) 3 1 cs271 :: L) ∧ f 0 = .slice a1 s6.length c3 ∧ f 2 = .int .i64 i214 ∧ f 3 = .int .i64 j215) (fun w => Held w m (L)) mixed rfl ?_ ?_
  ·replace hH273 := hH273.drew1
   have hS274 := hS223.drew1
   refine d_v (i := 0) rfl (by kernel_rfl) rfl (r_move (v := .slice _ _ _) rfl) hH273 ?_
   refine d_v (i := 1) rfl (by kernel_rfl) rfl (r_move (v := .int .i64 _) rfl) hH273 ?_
   refine d_v (i := 2) rfl (by kernel_rfl) rfl (r_move (v := .slice _ _ _) rfl) hH273 ?_
   refine d_v (i := 3) rfl (by kernel_rfl) rfl (r_move (v := .int .i64 _) rfl) hH273 ?_
   refine d_v (i := 4) rfl (by kernel_rfl) rfl (r_move (v := .slice _ _ _) rfl) hH273 ?_
   refine d_v (i := 5) rfl (by kernel_rfl) rfl (r_move (v := .int .i64 _) rfl) hH273 ?_
   obtain ⟨b275, rfl⟩ := row_some (hS274.toHeld.own .here) hrc219 (by decide) h232 h233
   obtain ⟨es276, hes277, hR278⟩ := row_read hrc219 hx231
   obtain rfl := hR278
   refine d_v (i := 6) rfl (by kernel_rfl) rfl (r_indexAddr Try.underlying35 ty3 (b := _) (o := _) (n := _) (c := _) (i := j215) rfl rfl h232 (row_lt (hS274.toHeld.own .here) hrc219 (by decide) h233)) hH273 ?_
   refine d_v (i := 8) rfl (by kernel_rfl) rfl (r_move (v := .slice _ _ _) rfl) hH273 ?_
   refine d_v (i := 9) rfl (by kernel_rfl) rfl (r_move (v := .int .i64 _) rfl) hH273 ?_
   obtain ⟨es279, hes280, hR281⟩ := row_read hrc219 hx239
   obtain rfl := hR281
   refine d_v (i := 10) rfl (by kernel_rfl) rfl (r_indexAddr Try.underlying35 ty3 (b := _) (o := _) (n := _) (c := _) (i := i214) rfl rfl h240 (row_lt (hS274.toHeld.own .here) hrc219 (by decide) h241)) hH273 ?_
   refine d_all (rs := [7, 11]) (by kernel_rfl) (by simp) (fun j hj o ho => ?_)
   simp only [List.mem_cons, List.not_mem_nil, or_false] at hj
   rcases hj with rfl | rfl
   ·cases ho
    refine wl_h hS274.toHeld (r_row ty3 (k := 0) (i := j215.toNat) .here rfl rfl (row_room hrc219 hx231) hes277 rfl (v := .int .i64 _) rfl) <| wl_nil ?_
    have hH282 := hS274.toHeld.mono (Mem.le_refl _) (List.Sublist.subset (.cons _ (.refl _)))
    refine ⟨hH282, ?_⟩
    refine d_all (rs := [11]) (by kernel_rfl) (by simp) (fun j hj o ho => ?_)
    obtain rfl : j = 11 := by simpa using hj
    cases ho
    refine wl_h hS274.toHeld (r_row ty3 (k := 0) (i := i214.toNat) .here rfl rfl (row_room hrc219 hx239) hes280 rfl (v := .int .i64 _) rfl) <| wl_nil ?_
    have hH283 := hS274.toHeld.mono (Mem.le_refl _) (List.Sublist.subset (.cons _ (.refl _)))
    refine ⟨hH283, ?_⟩
    obtain ⟨es284, hes285, hR286⟩ := row_read hrc219 hx248
    obtain rfl := hR286
    refine d_v (i := 12) rfl (by kernel_rfl) rfl (r_indexAddr Try.underlying35 ty3 (b := _) (o := _) (n := _) (c := _) (i := i214) rfl rfl h249 (row_lt (hS274.toHeld.own .here) hrc219 (by decide) h250)) hH283 ?_
    refine d_all (rs := [13]) (by kernel_rfl) (by simp) (fun j hj o ho => ?_)
    obtain rfl : j = 13 := by simpa using hj
    cases ho
    refine wl_store_row ty3 hS274 rfl (v := .int .i64 _) rfl (vs := [.int .i64 _]) rfl rfl rfl .here (Nat.le_trans (by simp only [Nat.zero_add]; omega) (row_room hrc219 hx248)) ?_
    intro w287 hS288
    have hrc289 := RCs.seti hrc219 hx248 (vs := [.int .i64 x230]) (y := x230) rfl rfl
    generalize spl cs217 (0 + i214.toNat * 1) [.int .i64 x230] = cs290 at hS288 hrc289
    refine wl_nil ?_
    have hH291 := hS288.toHeld.mono (Mem.le_refl _) (List.Sublist.subset (.cons _ (.refl _)))
    refine ⟨hH291, ?_⟩
    obtain ⟨es292, hes293, hR294⟩ := row_read hrc289 hx260
    obtain rfl := hR294
    refine d_v (i := 14) rfl (by kernel_rfl) rfl (r_indexAddr Try.underlying35 ty3 (b := _) (o := _) (n := _) (c := _) (i := j215) rfl rfl h261 (row_lt (hS288.toHeld.own .here) hrc289 (by decide) h262)) hH291 ?_
    refine d_all (rs := [15]) (by kernel_rfl) (by simp) (fun j hj o ho => ?_)
    obtain rfl : j = 15 := by simpa using hj
    cases ho
    refine wl_store_row ty3 hS288 rfl (v := .int .i64 _) rfl (vs := [.int .i64 _]) rfl rfl rfl .here (Nat.le_trans (by simp only [Nat.zero_add]; omega) (row_room hrc289 hx260)) ?_
    intro w295 hS296
    have hrc297 := RCs.seti hrc289 hx260 (vs := [.int .i64 x238]) (y := x238) rfl rfl
    generalize spl cs290 (0 + j215.toNat * 1) [.int .i64 x238] = cs298 at hS296 hrc297
    refine wl_nil ?_
    have hH299 := hS296.toHeld.mono (Mem.le_refl _) (List.Sublist.subset (.cons _ (.refl _)))
    refine ⟨hH299, ?_⟩
    refine d_end (by kernel_rfl) ?_
    exact ⟨_, hrc297, hS296, rfl, rfl, rfl⟩
   ·cases ho
    refine wl_h hS274.toHeld (r_row ty3 (k := 0) (i := i214.toNat) .here rfl rfl (row_room hrc219 hx239) hes280 rfl (v := .int .i64 _) rfl) <| wl_nil ?_
    have hH300 := hS274.toHeld.mono (Mem.le_refl _) (List.Sublist.subset (.cons _ (.refl _)))
    refine ⟨hH300, ?_⟩
    refine d_all (rs := [7]) (by kernel_rfl) (by simp) (fun j hj o ho => ?_)
    obtain rfl : j = 7 := by simpa using hj
    cases ho
    refine wl_h hS274.toHeld (r_row ty3 (k := 0) (i := j215.toNat) .here rfl rfl (row_room hrc219 hx231) hes277 rfl (v := .int .i64 _) rfl) <| wl_nil ?_
    have hH301 := hS274.toHeld.mono (Mem.le_refl _) (List.Sublist.subset (.cons _ (.refl _)))
    refine ⟨hH301, ?_⟩
    obtain ⟨es302, hes303, hR304⟩ := row_read hrc219 hx248
    obtain rfl := hR304
    refine d_v (i := 12) rfl (by kernel_rfl) rfl (r_indexAddr Try.underlying35 ty3 (b := _) (o := _) (n := _) (c := _) (i := i214) rfl rfl h249 (row_lt (hS274.toHeld.own .here) hrc219 (by decide) h250)) hH301 ?_
    refine d_all (rs := [13]) (by kernel_rfl) (by simp) (fun j hj o ho => ?_)
    obtain rfl : j = 13 := by simpa using hj
    cases ho
    refine wl_store_row ty3 hS274 rfl (v := .int .i64 _) rfl (vs := [.int .i64 _]) rfl rfl rfl .here (Nat.le_trans (by simp only [Nat.zero_add]; omega) (row_room hrc219 hx248)) ?_
    intro w305 hS306
    have hrc307 := RCs.seti hrc219 hx248 (vs := [.int .i64 x230]) (y := x230) rfl rfl
    generalize spl cs217 (0 + i214.toNat * 1) [.int .i64 x230] = cs308 at hS306 hrc307
    refine wl_nil ?_
    have hH309 := hS306.toHeld.mono (Mem.le_refl _) (List.Sublist.subset (.cons _ (.refl _)))
    refine ⟨hH309, ?_⟩
    obtain ⟨es310, hes311, hR312⟩ := row_read hrc307 hx260
    obtain rfl := hR312
    refine d_v (i := 14) rfl (by kernel_rfl) rfl (r_indexAddr Try.underlying35 ty3 (b := _) (o := _) (n := _) (c := _) (i := j215) rfl rfl h261 (row_lt (hS306.toHeld.own .here) hrc307 (by decide) h262)) hH309 ?_
    refine d_all (rs := [15]) (by kernel_rfl) (by simp) (fun j hj o ho => ?_)
    obtain rfl : j = 15 := by simpa using hj
    cases ho
    refine wl_store_row ty3 hS306 rfl (v := .int .i64 _) rfl (vs := [.int .i64 _]) rfl rfl rfl .here (Nat.le_trans (by simp only [Nat.zero_add]; omega) (row_room hrc307 hx260)) ?_
    intro w313 hS314
    have hrc315 := RCs.seti hrc307 hx260 (vs := [.int .i64 x238]) (y := x238) rfl rfl
    generalize spl cs308 (0 + j215.toNat * 1) [.int .i64 x238] = cs316 at hS314 hrc315
    refine wl_nil ?_
    have hH317 := hS314.toHeld.mono (Mem.le_refl _) (List.Sublist.subset (.cons _ (.refl _)))
    refine ⟨hH317, ?_⟩
    refine d_end (by kernel_rfl) ?_
    exact ⟨_, hrc315, hS314, rfl, rfl, rfl⟩
  ·rintro f322 w323 ⟨cs271, hrc272, hS318, e319, e320, e321⟩
   refine c_know (t := 0) e319 <| c_know (t := 2) e320 <| c_know (t := 3) e321 ?_
   clear e319 e320 e321
   refine c_nil <| q_norm <| c_region <| wl_h hS318.toHeld (r_move (v := .int .i64 _) rfl) ?_
   obtain ⟨hc324, hM⟩ := chk_ok hM
   refine wl_h hS318.toHeld (r_add (a := _) (b := _) rfl rfl (ok_lo hc324) (ok_hi hc324)) <| wl_h hS318.toHeld (r_move (v := .int .i64 _) rfl) ?_
   obtain ⟨hc325, hM⟩ := chk_ok hM
   refine wl_h hS318.toHeld (r_sub (a := _) (b := _) rfl rfl (ok_lo hc325) (ok_hi hc325)) <| wl_h hS318.toHeld (r_assign (v := .int .i64 _) rfl) <| wl_h hS318.toHeld (r_assign (v := .int .i64 _) rfl) <| wl_nil <| c_nil <| q_loop ?_
   exact ⟨k_0, Nat.lt_succ_self _, i214 + 1, j215 - 1, ((l216.set i214.toNat x230).set j215.toNat x238), cs271, hM, row_n (hS318.toHeld.own .here) hrc272 (by decide), hrc272, hS318, rfl, rfl, rfl⟩
 ·replace hM := bif_f h227 hM
  refine c_exit <| q_loopx <| q_hit <| c_nil <| end_none rfl ?_
  obtain rfl := some_eq hM
  exact ⟨cs217, rfl, row_n (hS223.toHeld.own .here) hrc219 (by decide), hrc219, hS223⟩

theorem cg9 {m : Mem} {L : List Atom} {w : World} {n1 : Int} {a2 : Option Addr} {n3 c4 : Nat} {l6 : List Int} (hS : St w m L) (hr5 : RSl 1 (RIntK .u8) m a2 n3 c4 l6) {fuel : Nat} {r : (List (List Int))} (hM : mg9 fuel n1 l6 = some r) : Calls P0 9 [.int .i64 n1, .slice a2 n3 c4].toArray w (Ret fun v w' => ∃ (m' : Mem) (a0 : Option Addr) (n0 : Nat) (c0 : Nat) (cs0 : List Value), v = .slice a0 n0 c0 ∧ m ≤ m' ∧ n0 = r.length ∧ RCs 1 (RS 1 RInt) m' cs0 r ∧ St w' m' (.row (.slice a0 n0 c0) 35 1 cs0 :: L)) := by
 rw [mg9] at hM
 obtain rfl := hr5.1
 refine enter Try.func9 rfl Try.ntmps9 (Nat.le_of_ble_eq_true rfl) ?_
 refine c_seq <| c_region <| wl_h hS.toHeld (r_assign (v := .slice _ _ _) rfl) <| wl_nil <| c_seq <| c_region <| wl_h hS.toHeld (r_move (v := .slice _ _ _) rfl) ?_
 refine wl_h hS.toHeld (r_build ty30 st30 (ps := [(0, [.slice _ _ _])]) rfl rfl (cs := [.slice _ _ _, .int .i64 _]) rfl) <| wl_box hS (v := .agg #[.slice _ _ _, .int .i64 _]) rfl (cs := [.slice _ _ _, .int .i64 _]) rfl ?_
 intro b7 w8 hS9
 refine wl_h hS9.toHeld (r_assign (v := .pointer (some ⟨_, _, none⟩)) rfl) <| wl_nil <| c_seq <| c_region <| wl_h hS9.toHeld (r_assign (v := .slice _ _ _) rfl) ?_
 refine wl_nil <| c_seq <| c_seq <| c_region <| wl_h hS9.toHeld (r_move (v := .int .i64 _) rfl) ?_
 refine wl_h hS9.toHeld (r_move (v := .int .i64 _) rfl) <| wl_nil <| c_block ?_
 have hS2297 := hS9.nilRow 35 1
 have hrc2298 : RCs 1 RSv m [] ([] : List (List Int)) := RCs.nil
 have hS2299 := tab_nil (e := 3) (A := [.row (.slice none 0 0) 35 1 [], .box b7 30 [.slice a2 l6.length c4, .int .i64 0]]) (L := L) hS2297
 simp only [List.cons_append, List.nil_append] at hS2299
 refine c_loop (fun k f w => ∃ (x2300 : Int) (y2301 : List Int) (y2306 : Int) (l2307 : List (List Int)) (a2302 : Option Addr) (n2303 : Nat) (c2304 : Nat) (a2308 : Option Addr) (n2309 : Nat) (c2310 : Nat) (cs2311 : List Value), mg9_l0 fuel n1 k x2300 y2301 y2306 l2307 = some r ∧ RSl 1 (RIntK .u8) m a2302 n2303 c2304 y2301 ∧ n2309 = l2307.length ∧ RCs 1 RSv m cs2311 l2307 ∧ St w m (.row (.slice a2308 n2309 c2310) 35 1 cs2311 :: .box b7 30 [.slice a2302 n2303 c2304, .int .i64 y2306] :: (rowsV 3 cs2311 l2307 ++ L)) ∧ f 5 = .pointer (some ⟨b7, 0, none⟩) ∧ f 6 = .slice a2308 n2309 c2310 ∧ f 12 = .int .i64 n1 ∧ f 13 = .int .i64 x2300) fuel ⟨0, l6, 0, ([] : List (List Int)), a2, l6.length, c4, none, 0, 0, [], hM, hr5, row_n (hS2299.toHeld.own .here) hrc2298 (by decide), hrc2298, hS2299, rfl, rfl, rfl, rfl⟩ ?_
 rintro k_0 f2314 w2315 ⟨x2300, y2301, y2306, l2307, a2302, n2303, c2304, a2308, n2309, c2310, cs2311, hM, hr2305, hn2312, hrc2313, hS2317, e2318, e2319, e2320, e2321⟩
 obtain rfl := hr2305.1
 subst hn2312
 refine c_know (t := 5) e2318 <| c_know (t := 6) e2319 <| c_know (t := 12) e2320 <| c_know (t := 13) e2321 ?_
 clear e2318 e2319 e2320 e2321
 rcases k_0 with _ | k_0
 · exact none_ne hM
 rw [mg9_l0] at hM
 refine c_seq <| c_region <| wl_h hS2317.toHeld (r_lss (a := _) (b := _) rfl rfl) <| wl_nil <| c_seq <| c_cond (c := _) rfl (fun h2322 => ?_) (fun h2322 => ?_)
 ·replace hM := bif_t h2322 hM
  refine c_skip <| c_seq <| c_block <| c_seq <| c_region <| wl_h hS2317.toHeld (r_move (v := .int .i64 _) rfl) ?_
  refine wl_h hS2317.toHeld (r_assign (v := .int .i64 _) rfl) <| wl_nil <| c_seq <| c_region <| wl_h hS2317.toHeld (r_move (v := .pointer (some ⟨_, _, none⟩)) rfl) ?_
  refine wl_h hS2317.toHeld (r_move (v := .slice _ _ _) rfl) <| wl_h hS2317.toHeld (r_len Try.underlying24 (a := _) (n := _) (c := _) rfl) ?_
  obtain ⟨hc2323, hM⟩ := chk_ok hM
  refine wl_h hS2317.toHeld (r_add (a := _) (b := _) rfl rfl (ok_lo hc2323) (ok_hi hc2323)) ?_
  have hS2324 := hS2317.front (.there .here)
  obtain ⟨r2325, hq2326, hM⟩ := bnd_ok hM
  refine wl_call ent7 (vals := [.pointer (some ⟨_, _, none⟩), .int .i64 _]) rfl (cg7 hS2324 hr2305 hq2326) ?_
  rintro _ w2328 ⟨rfl, hS2329⟩
  refine wl_h hS2329.toHeld (r_assign (v := .int .i64 _) rfl) <| wl_nil <| c_seq <| c_seq <| c_region <| wl_h hS2329.toHeld (r_move (v := .int .i64 _) rfl) ?_
  refine wl_h hS2329.toHeld (r_move (v := .slice _ _ _) rfl) <| wl_h hS2329.toHeld (r_len Try.underlying24 (a := _) (n := _) (c := _) rfl) <| wl_h hS2329.toHeld (r_eql (a := _) (b := _) rfl rfl) <| wl_nil <| c_cond (c := _) rfl (fun h2330 => ?_) (fun h2330 => ?_)
  ·replace hM := bif_t h2330 hM
   refine c_region <| wl_h hS2329.toHeld (r_move (v := .slice _ _ _) rfl) <| wl_buildSlice Try.underlying24 ty35 rfl (by decide) (by decide) hS2329 (ps := [(0, [.slice _ _ _])]) rfl rfl (cs := [.slice _ _ _]) rfl rfl (by decide) ?_
   intro b2332 w2333 hS2334
   have hrc2335 : RCs 1 RSv m [.slice none 0 0] ([([] : List Int)] : List (List Int)) := (RCs.cons (d := [.slice none 0 0]) rfl ⟨none, 0, rfl⟩ RCs.nil)
   obtain ⟨hc2336, hM⟩ := chk_ok hM
   refine wl_append_src Try.underlying24 ty35 rfl (by decide) hS2334 (a := _) (nn := _) (c := _) rfl (a2 := _) (k2 := _) (c2 := _) rfl (.there (.there .here)) (row_src (hS2334.toHeld.own .here) (RCs.allOne RSv.one (by decide) hrc2335)) (lim_b hc2336 rfl) (lim_a hc2336) ?_
   intro a2337 c2338 w2339 hS2340
   have hrc2342 := RCs.append hrc2313 hrc2335
   have hS2344 := tab_snoc (A := [.row (.slice a2337 (l2307.length + 1) c2338) 35 1 (cs2311 ++ [.slice none 0 0]), .row (.slice (some ⟨b2332, 0, none⟩) 1 1) 35 1 [.slice none 0 0], .box b7 30 [.slice a2302 y2301.length c2304, .int .i64 r2325.2]]) (L := L) hrc2313 hS2340
   simp only [List.cons_append, List.nil_append] at hS2344
   generalize cs2311 ++ [.slice none 0 0] = cs2343 at hS2344 hrc2342
   have hS2345 := hS2344.weaken (.cons_cons _ (.cons _ (.cons_cons _ (.refl _))))
   refine wl_h hS2345.toHeld (r_assign (v := .slice _ _ _) rfl) <| wl_nil ?_
   obtain ⟨x2412, hx2413, h2414, h2415, hM⟩ := getK_ok hM
   obtain ⟨x2422, hx2423, h2424, h2425, hM⟩ := getK_ok hM
   obtain ⟨hc2433, hM⟩ := chk_ok hM
   obtain ⟨r2435, hq2436, hM⟩ := bnd_ok hM
   obtain ⟨hc2447, hM⟩ := chk_ok hM
   obtain ⟨hc2448, hM⟩ := chk_ok hM
   obtain ⟨x2459, hx2460, h2461, h2462, hM⟩ := getK_ok hM
   have hH2480 := (hS2345.weaken (.cons _ (.cons _ (List.sublist_append_right _ _)))).toHeld
   refine c_drawJ (k := 19) (fun f w => ∃ (a2474 : Option Addr) (n2475 : Nat) (c2476 : Nat) (cs2477 : List Value), n2475 = (((l2307 ++ [([] : List Int)]).set r2325.1.toNat (insAt x2412 r2435.1.toNat x2300))).length ∧ RCs 1 RSv m cs2477 ((l2307 ++ [([] : List Int)]).set r2325.1.toNat (insAt x2412 r2435.1.toNat x2300)) ∧ St w m (.box b7 30 [.slice a2302 y2301.length c2304, .int .i64 r2435.2] :: .row (.slice a2474 n2475 c2476) 35 1 cs2477 :: (rowsV 3 cs2477 ((l2307 ++ [([] : List Int)]).set r2325.1.toNat (insAt x2412 r2435.1.toNat x2300)) ++ L)) ∧ f 5 = .pointer (some ⟨b7, 0, none⟩) ∧ f 6 = .slice a2474 n2475 c2476 ∧ f 12 = .int .i64 n1 ∧ f 13 = .int .i64 x2300) (fun w => Held w m (L)) mixed rfl ?_ ?_
   ·replace hH2480 := hH2480.drew1
    have hS2481 := hS2345.drew1
    refine d_v (i := 0) rfl (by kernel_rfl) rfl (r_move (v := .slice _ _ _) rfl) hH2480 ?_
    refine d_v (i := 1) rfl (by kernel_rfl) rfl (r_move (v := .int .i64 _) rfl) hH2480 ?_
    refine d_v (i := 2) rfl (by kernel_rfl) rfl (r_move (v := .slice _ _ _) rfl) hH2480 ?_
    refine d_v (i := 3) rfl (by kernel_rfl) rfl (r_move (v := .int .i64 _) rfl) hH2480 ?_
    obtain ⟨b2482, rfl⟩ := row_some (hS2481.toHeld.own .here) hrc2342 (by decide) h2414 h2415
    obtain ⟨es2483, hes2484, hR2485⟩ := row_read hrc2342 hx2413
    obtain ⟨a2486, c2487, rfl⟩ := hR2485
    refine d_v (i := 4) rfl (by kernel_rfl) rfl (r_indexAddr Try.underlying24 ty35 (b := _) (o := _) (n := _) (c := _) (i := r2325.1) rfl rfl h2414 (row_lt (hS2481.toHeld.own .here) hrc2342 (by decide) h2415)) hH2480 ?_
    refine d_v (i := 6) rfl (by kernel_rfl) rfl (r_move (v := .pointer (some ⟨_, _, none⟩)) rfl) hH2480 ?_
    refine d_v (i := 7) rfl (by kernel_rfl) rfl (r_move (v := .slice _ _ _) rfl) hH2480 ?_
    refine d_v (i := 8) rfl (by kernel_rfl) rfl (r_move (v := .int .i64 _) rfl) hH2480 ?_
    obtain ⟨es2488, hes2489, hR2490⟩ := row_read hrc2342 hx2423
    obtain ⟨a2491, c2492, rfl⟩ := hR2490
    refine d_v (i := 9) rfl (by kernel_rfl) rfl (r_indexAddr Try.underlying24 ty35 (b := _) (o := _) (n := _) (c := _) (i := r2325.1) rfl rfl h2424 (row_lt (hS2481.toHeld.own .here) hrc2342 (by decide) h2425)) hH2480 ?_
    refine d_v (i := 14) rfl (by kernel_rfl) rfl (r_move (v := .int .i64 _) rfl) hH2480 ?_
    refine d_all (rs := [5, 10, 15]) (by kernel_rfl) (by simp) (fun j hj o ho => ?_)
    simp only [List.mem_cons, List.not_mem_nil, or_false] at hj
    rcases hj with rfl | rfl | rfl
    ·cases ho
     refine wl_h hS2481.toHeld (r_row ty35 (k := 0) (i := r2325.1.toNat) .here rfl rfl (row_room hrc2342 hx2413) hes2484 rfl (v := .slice _ _ _) rfl) <| wl_nil ?_
     have hH2493 := hS2481.toHeld.mono (Mem.le_refl _) (List.Sublist.subset (.cons _ (.cons _ (List.sublist_append_right _ _))))
     refine ⟨hH2493, ?_⟩
     refine d_all (rs := [10, 15]) (by kernel_rfl) (by simp) (fun j hj o ho => ?_)
     simp only [List.mem_cons, List.not_mem_nil, or_false] at hj
     rcases hj with rfl | rfl
     ·cases ho
      refine wl_h hS2481.toHeld (r_row ty35 (k := 0) (i := r2325.1.toNat) .here rfl rfl (row_room hrc2342 hx2423) hes2489 rfl (v := .slice _ _ _) rfl) <| wl_nil ?_
      have hH2494 := hS2481.toHeld.mono (Mem.le_refl _) (List.Sublist.subset (.cons _ (.cons _ (List.sublist_append_right _ _))))
      refine ⟨hH2494, ?_⟩
      refine d_v (i := 11) rfl (by kernel_rfl) rfl (r_len Try.underlying35 (a := _) (n := _) (c := _) rfl) hH2494 ?_
      refine d_v (i := 12) rfl (by kernel_rfl) rfl (r_add (a := _) (b := _) rfl rfl (ok_lo hc2433) (ok_hi hc2433)) hH2494 ?_
      refine d_all (rs := [13, 15]) (by kernel_rfl) (by simp) (fun j hj o ho => ?_)
      simp only [List.mem_cons, List.not_mem_nil, or_false] at hj
      rcases hj with rfl | rfl
      ·cases ho
       have hS2495 := hS2481.front (.there .here)
       refine wl_call ent7 (vals := [.pointer (some ⟨_, _, none⟩), .int .i64 _]) rfl (cg7 hS2495 hr2305 hq2436) ?_
       rintro _ w2497 ⟨rfl, hS2498⟩
       refine wl_nil ?_
       have hH2499 := hS2498.toHeld.mono (Mem.le_refl _) (List.Sublist.subset (.cons _ (.cons _ (List.sublist_append_right _ _))))
       refine ⟨hH2499, ?_⟩
       refine d_all (rs := [15]) (by kernel_rfl) (by simp) (fun j hj o ho => ?_)
       obtain rfl : j = 15 := by simpa using hj
       cases ho
       refine wl_buildSlice Try.underlying35 ty3 rfl (by decide) (by decide) hS2498 (ps := [(0, [.int .i64 _])]) rfl rfl (cs := [.int .i64 _]) rfl rfl (by decide) ?_
       intro b2501 w2502 hS2503
       have hrc2504 : RCs 1 RInt m [.int .i64 x2300] ([x2300] : List Int) := (RCs.cons (d := [.int .i64 x2300]) rfl rfl RCs.nil)
       refine wl_nil ?_
       have hH2505 := hS2503.toHeld.mono (Mem.le_refl _) (List.Sublist.subset (.cons _ (.cons _ (.cons _ (List.sublist_append_right _ _)))))
       refine ⟨hH2505, ?_⟩
       refine d_all (rs := [16]) (by kernel_rfl) (by simp) (fun j hj o ho => ?_)
       obtain rfl : j = 16 := by simpa using hj
       cases ho
       obtain ⟨R2506, hS2508, back2507⟩ := tab_take (A := [.row (.slice (some ⟨b2501, 0, none⟩) 1 1) 3 1 [.int .i64 x2300], .box b7 30 [.slice a2302 y2301.length c2304, .int .i64 r2435.2], .row (.slice (some ⟨b2482, 0, none⟩) (l2307.length + 1) c2338) 35 1 cs2343]) (L := L) hS2503 (take_get hes2484) hx2413
       simp only [List.cons_append, List.nil_append] at hS2508
       refine wl_call ent21 (vals := [.slice _ _ _, .int .i64 _, .slice _ _ _]) rfl (insert_rowI Try.lInsert hS2508 hc2447 hc2448) ?_
       rintro _ w2509 ⟨a2510, c2511, rfl, hS2512⟩
       have hS2514 := hS2512.weaken (.cons_cons _ (.cons _ (.cons_cons _ (.cons_cons _ (.refl _)))))
       refine wl_nil ?_
       have hH2515 := hS2514.toHeld.mono (Mem.le_refl _) (List.Sublist.subset (.cons _ (.cons _ (.cons _ (List.sublist_append_right _ _)))))
       refine ⟨hH2515, ?_⟩
       obtain ⟨es2516, hes2517, hR2518⟩ := row_read hrc2342 hx2460
       obtain ⟨a2519, c2520, rfl⟩ := hR2518
       refine d_v (i := 17) rfl (by kernel_rfl) rfl (r_indexAddr Try.underlying24 ty35 (b := _) (o := _) (n := _) (c := _) (i := r2325.1) rfl rfl h2461 (row_lt (hS2514.toHeld.own (.there (.there .here))) hrc2342 (by decide) h2462)) hH2515 ?_
       refine d_all (rs := [18]) (by kernel_rfl) (by simp) (fun j hj o ho => ?_)
       obtain rfl : j = 18 := by simpa using hj
       cases ho
       refine wl_store_row ty35 hS2514 rfl (v := .slice _ _ _) rfl (vs := [.slice _ _ _]) rfl rfl rfl (.there (.there .here)) (Nat.le_trans (by simp only [Nat.zero_add]; omega) (row_room hrc2342 hx2460)) ?_
       intro w2521 hS2522
       rw [spl_one (tab_lt hrc2342 hx2460)] at hS2522
       have hrc2523 := RCs.seti hrc2342 hx2460 (vs := [.slice a2510 ((insAt x2412 r2435.1.toNat x2300).length) c2511]) (y := (insAt x2412 r2435.1.toNat x2300)) rfl ⟨_, _, rfl⟩
       rw [spl_one (tab_lt hrc2342 hx2460)] at hrc2523
       have hS2525 := back2507 [.box b7 30 [.slice a2302 y2301.length c2304, .int .i64 r2435.2], .row (.slice (some ⟨b2482, 0, none⟩) (l2307.length + 1) c2338) 35 1 (cs2343.set r2325.1.toNat (.slice a2510 ((insAt x2412 r2435.1.toNat x2300).length) c2511))] _ _ _ hS2522
       simp only [List.cons_append, List.nil_append] at hS2525
       generalize cs2343.set r2325.1.toNat (.slice a2510 ((insAt x2412 r2435.1.toNat x2300).length) c2511) = cs2524 at hS2525 hrc2523
       refine wl_nil ?_
       have hH2526 := hS2525.toHeld.mono (Mem.le_refl _) (List.Sublist.subset (.cons _ (.cons _ (List.sublist_append_right _ _))))
       refine ⟨hH2526, ?_⟩
       refine d_end (by kernel_rfl) ?_
       exact ⟨_, _, _, _, row_n (hS2525.toHeld.own (.there .here)) hrc2523 (by decide), hrc2523, hS2525, rfl, rfl, rfl, rfl⟩
      ·cases ho
       refine wl_buildSlice Try.underlying35 ty3 rfl (by decide) (by decide) hS2481 (ps := [(0, [.int .i64 _])]) rfl rfl (cs := [.int .i64 _]) rfl rfl (by decide) ?_
       intro b2528 w2529 hS2530
       have hrc2531 : RCs 1 RInt m [.int .i64 x2300] ([x2300] : List Int) := (RCs.cons (d := [.int .i64 x2300]) rfl rfl RCs.nil)
       refine wl_nil ?_
       have hH2532 := hS2530.toHeld.mono (Mem.le_refl _) (List.Sublist.subset (.cons _ (.cons _ (.cons _ (List.sublist_append_right _ _)))))
       refine ⟨hH2532, ?_⟩
       refine d_all (rs := [13]) (by kernel_rfl) (by simp) (fun j hj o ho => ?_)
       obtain rfl : j = 13 := by simpa using hj
       cases ho
       have hS2533 := hS2530.front (.there (.there .here))
       refine wl_call ent7 (vals := [.pointer (some ⟨_, _, none⟩), .int .i64 _]) rfl (cg7 hS2533 hr2305 hq2436) ?_
       rintro _ w2535 ⟨rfl, hS2536⟩
       refine wl_nil ?_
       have hH2537 := hS2536.toHeld.mono (Mem.le_refl _) (List.Sublist.subset (.cons _ (.cons _ (.cons _ (List.sublist_append_right _ _)))))
       refine ⟨hH2537, ?_⟩
       refine d_all (rs := [16]) (by kernel_rfl) (by simp) (fun j hj o ho => ?_)
       obtain rfl : j = 16 := by simpa using hj
       cases ho
       have hS2538 := hS2536.front (.there .here)
       obtain ⟨R2539, hS2541, back2540⟩ := tab_take (A := [.row (.slice (some ⟨b2528, 0, none⟩) 1 1) 3 1 [.int .i64 x2300], .box b7 30 [.slice a2302 y2301.length c2304, .int .i64 r2435.2], .row (.slice (some ⟨b2482, 0, none⟩) (l2307.length + 1) c2338) 35 1 cs2343]) (L := L) hS2538 (take_get hes2484) hx2413
       simp only [List.cons_append, List.nil_append] at hS2541
       refine wl_call ent21 (vals := [.slice _ _ _, .int .i64 _, .slice _ _ _]) rfl (insert_rowI Try.lInsert hS2541 hc2447 hc2448) ?_
       rintro _ w2542 ⟨a2543, c2544, rfl, hS2545⟩
       have hS2547 := hS2545.weaken (.cons_cons _ (.cons _ (.cons_cons _ (.cons_cons _ (.refl _)))))
       refine wl_nil ?_
       have hH2548 := hS2547.toHeld.mono (Mem.le_refl _) (List.Sublist.subset (.cons _ (.cons _ (.cons _ (List.sublist_append_right _ _)))))
       refine ⟨hH2548, ?_⟩
       obtain ⟨es2549, hes2550, hR2551⟩ := row_read hrc2342 hx2460
       obtain ⟨a2552, c2553, rfl⟩ := hR2551
       refine d_v (i := 17) rfl (by kernel_rfl) rfl (r_indexAddr Try.underlying24 ty35 (b := _) (o := _) (n := _) (c := _) (i := r2325.1) rfl rfl h2461 (row_lt (hS2547.toHeld.own (.there (.there .here))) hrc2342 (by decide) h2462)) hH2548 ?_
       refine d_all (rs := [18]) (by kernel_rfl) (by simp) (fun j hj o ho => ?_)
       obtain rfl : j = 18 := by simpa using hj
       cases ho
       refine wl_store_row ty35 hS2547 rfl (v := .slice _ _ _) rfl (vs := [.slice _ _ _]) rfl rfl rfl (.there (.there .here)) (Nat.le_trans (by simp only [Nat.zero_add]; omega) (row_room hrc2342 hx2460)) ?_
       intro w2554 hS2555
       rw [spl_one (tab_lt hrc2342 hx2460)] at hS2555
       have hrc2556 := RCs.seti hrc2342 hx2460 (vs := [.slice a2543 ((insAt x2412 r2435.1.toNat x2300).length) c2544]) (y := (insAt x2412 r2435.1.toNat x2300)) rfl ⟨_, _, rfl⟩
       rw [spl_one (tab_lt hrc2342 hx2460)] at hrc2556
       have hS2558 := back2540 [.box b7 30 [.slice a2302 y2301.length c2304, .int .i64 r2435.2], .row (.slice (some ⟨b2482, 0, none⟩) (l2307.length + 1) c2338) 35 1 (cs2343.set r2325.1.toNat (.slice a2543 ((insAt x2412 r2435.1.toNat x2300).length) c2544))] _ _ _ hS2555
       simp only [List.cons_append, List.nil_append] at hS2558
       generalize cs2343.set r2325.1.toNat (.slice a2543 ((insAt x2412 r2435.1.toNat x2300).length) c2544) = cs2557 at hS2558 hrc2556
       refine wl_nil ?_
       have hH2559 := hS2558.toHeld.mono (Mem.le_refl _) (List.Sublist.subset (.cons _ (.cons _ (List.sublist_append_right _ _))))
       refine ⟨hH2559, ?_⟩
       refine d_end (by kernel_rfl) ?_
       exact ⟨_, _, _, _, row_n (hS2558.toHeld.own (.there .here)) hrc2556 (by decide), hrc2556, hS2558, rfl, rfl, rfl, rfl⟩
     ·cases ho
      refine wl_buildSlice Try.underlying35 ty3 rfl (by decide) (by decide) hS2481 (ps := [(0, [.int .i64 _])]) rfl rfl (cs := [.int .i64 _]) rfl rfl (by decide) ?_
      intro b2561 w2562 hS2563
      have hrc2564 : RCs 1 RInt m [.int .i64 x2300] ([x2300] : List Int) := (RCs.cons (d := [.int .i64 x2300]) rfl rfl RCs.nil)
      refine wl_nil ?_
      have hH2565 := hS2563.toHeld.mono (Mem.le_refl _) (List.Sublist.subset (.cons _ (.cons _ (.cons _ (List.sublist_append_right _ _)))))
      refine ⟨hH2565, ?_⟩
      refine d_all (rs := [10]) (by kernel_rfl) (by simp) (fun j hj o ho => ?_)
      obtain rfl : j = 10 := by simpa using hj
      cases ho
      refine wl_h hS2563.toHeld (r_row ty35 (k := 0) (i := r2325.1.toNat) (.there .here) rfl rfl (row_room hrc2342 hx2423) hes2489 rfl (v := .slice _ _ _) rfl) <| wl_nil ?_
      have hH2566 := hS2563.toHeld.mono (Mem.le_refl _) (List.Sublist.subset (.cons _ (.cons _ (.cons _ (List.sublist_append_right _ _)))))
      refine ⟨hH2566, ?_⟩
      refine d_v (i := 11) rfl (by kernel_rfl) rfl (r_len Try.underlying35 (a := _) (n := _) (c := _) rfl) hH2566 ?_
      refine d_v (i := 12) rfl (by kernel_rfl) rfl (r_add (a := _) (b := _) rfl rfl (ok_lo hc2433) (ok_hi hc2433)) hH2566 ?_
      refine d_all (rs := [13]) (by kernel_rfl) (by simp) (fun j hj o ho => ?_)
      obtain rfl : j = 13 := by simpa using hj
      cases ho
      have hS2567 := hS2563.front (.there (.there .here))
      refine wl_call ent7 (vals := [.pointer (some ⟨_, _, none⟩), .int .i64 _]) rfl (cg7 hS2567 hr2305 hq2436) ?_
      rintro _ w2569 ⟨rfl, hS2570⟩
      refine wl_nil ?_
      have hH2571 := hS2570.toHeld.mono (Mem.le_refl _) (List.Sublist.subset (.cons _ (.cons _ (.cons _ (List.sublist_append_right _ _)))))
      refine ⟨hH2571, ?_⟩
      refine d_all (rs := [16]) (by kernel_rfl) (by simp) (fun j hj o ho => ?_)
      obtain rfl : j = 16 := by simpa using hj
      cases ho
      have hS2572 := hS2570.front (.there .here)
      obtain ⟨R2573, hS2575, back2574⟩ := tab_take (A := [.row (.slice (some ⟨b2561, 0, none⟩) 1 1) 3 1 [.int .i64 x2300], .box b7 30 [.slice a2302 y2301.length c2304, .int .i64 r2435.2], .row (.slice (some ⟨b2482, 0, none⟩) (l2307.length + 1) c2338) 35 1 cs2343]) (L := L) hS2572 (take_get hes2484) hx2413
      simp only [List.cons_append, List.nil_append] at hS2575
      refine wl_call ent21 (vals := [.slice _ _ _, .int .i64 _, .slice _ _ _]) rfl (insert_rowI Try.lInsert hS2575 hc2447 hc2448) ?_
      rintro _ w2576 ⟨a2577, c2578, rfl, hS2579⟩
      have hS2581 := hS2579.weaken (.cons_cons _ (.cons _ (.cons_cons _ (.cons_cons _ (.refl _)))))
      refine wl_nil ?_
      have hH2582 := hS2581.toHeld.mono (Mem.le_refl _) (List.Sublist.subset (.cons _ (.cons _ (.cons _ (List.sublist_append_right _ _)))))
      refine ⟨hH2582, ?_⟩
      obtain ⟨es2583, hes2584, hR2585⟩ := row_read hrc2342 hx2460
      obtain ⟨a2586, c2587, rfl⟩ := hR2585
      refine d_v (i := 17) rfl (by kernel_rfl) rfl (r_indexAddr Try.underlying24 ty35 (b := _) (o := _) (n := _) (c := _) (i := r2325.1) rfl rfl h2461 (row_lt (hS2581.toHeld.own (.there (.there .here))) hrc2342 (by decide) h2462)) hH2582 ?_
      refine d_all (rs := [18]) (by kernel_rfl) (by simp) (fun j hj o ho => ?_)
      obtain rfl : j = 18 := by simpa using hj
      cases ho
      refine wl_store_row ty35 hS2581 rfl (v := .slice _ _ _) rfl (vs := [.slice _ _ _]) rfl rfl rfl (.there (.there .here)) (Nat.le_trans (by simp only [Nat.zero_add]; omega) (row_room hrc2342 hx2460)) ?_
      intro w2588 hS2589
      rw [spl_one (tab_lt hrc2342 hx2460)] at hS2589
      have hrc2590 := RCs.seti hrc2342 hx2460 (vs := [.slice a2577 ((insAt x2412 r2435.1.toNat x2300).length) c2578]) (y := (insAt x2412 r2435.1.toNat x2300)) rfl ⟨_, _, rfl⟩
      rw [spl_one (tab_lt hrc2342 hx2460)] at hrc2590
      have hS2592 := back2574 [.box b7 30 [.slice a2302 y2301.length c2304, .int .i64 r2435.2], .row (.slice (some ⟨b2482, 0, none⟩) (l2307.length + 1) c2338) 35 1 (cs2343.set r2325.1.toNat (.slice a2577 ((insAt x2412 r2435.1.toNat x2300).length) c2578))] _ _ _ hS2589
      simp only [List.cons_append, List.nil_append] at hS2592
      generalize cs2343.set r2325.1.toNat (.slice a2577 ((insAt x2412 r2435.1.toNat x2300).length) c2578) = cs2591 at hS2592 hrc2590
      refine wl_nil ?_
      have hH2593 := hS2592.toHeld.mono (Mem.le_refl _) (List.Sublist.subset (.cons _ (.cons _ (List.sublist_append_right _ _))))
      refine ⟨hH2593, ?_⟩
      refine d_end (by kernel_rfl) ?_
      exact ⟨_, _, _, _, row_n (hS2592.toHeld.own (.there .here)) hrc2590 (by decide), hrc2590, hS2592, rfl, rfl, rfl, rfl⟩
    ·cases ho
     refine wl_h hS2481.toHeld (r_row ty35 (k := 0) (i := r2325.1.toNat) .here rfl rfl (row_room hrc2342 hx2423) hes2489 rfl (v := .slice _ _ _) rfl) <| wl_nil ?_
     have hH2594 := hS2481.toHeld.mono (Mem.le_refl _) (List.Sublist.subset (.cons _ (.cons _ (List.sublist_append_right _ _))))
     refine ⟨hH2594, ?_⟩
     refine d_v (i := 11) rfl (by kernel_rfl) rfl (r_len Try.underlying35 (a := _) (n := _) (c := _) rfl) hH2594 ?_
     refine d_v (i := 12) rfl (by kernel_rfl) rfl (r_add (a := _) (b := _) rfl rfl (ok_lo hc2433) (ok_hi hc2433)) hH2594 ?_
     refine d_all (rs := [5, 13, 15]) (by kernel_rfl) (by simp) (fun j hj o ho => ?_)
     simp only [List.mem_cons, List.not_mem_nil, or_false] at hj
     rcases hj with rfl | rfl | rfl
     ·cases ho
      refine wl_h hS2481.toHeld (r_row ty35 (k := 0) (i := r2325.1.toNat) .here rfl rfl (row_room hrc2342 hx2413) hes2484 rfl (v := .slice _ _ _) rfl) <| wl_nil ?_
      have hH2595 := hS2481.toHeld.mono (Mem.le_refl _) (List.Sublist.subset (.cons _ (.cons _ (List.sublist_append_right _ _))))
      refine ⟨hH2595, ?_⟩
      refine d_all (rs := [13, 15]) (by kernel_rfl) (by simp) (fun j hj o ho => ?_)
      simp only [List.mem_cons, List.not_mem_nil, or_false] at hj
      rcases hj with rfl | rfl
      ·cases ho
       have hS2596 := hS2481.front (.there .here)
       refine wl_call ent7 (vals := [.pointer (some ⟨_, _, none⟩), .int .i64 _]) rfl (cg7 hS2596 hr2305 hq2436) ?_
       rintro _ w2598 ⟨rfl, hS2599⟩
       refine wl_nil ?_
       have hH2600 := hS2599.toHeld.mono (Mem.le_refl _) (List.Sublist.subset (.cons _ (.cons _ (List.sublist_append_right _ _))))
       refine ⟨hH2600, ?_⟩
       refine d_all (rs := [15]) (by kernel_rfl) (by simp) (fun j hj o ho => ?_)
       obtain rfl : j = 15 := by simpa using hj
       cases ho
       refine wl_buildSlice Try.underlying35 ty3 rfl (by decide) (by decide) hS2599 (ps := [(0, [.int .i64 _])]) rfl rfl (cs := [.int .i64 _]) rfl rfl (by decide) ?_
       intro b2602 w2603 hS2604
       have hrc2605 : RCs 1 RInt m [.int .i64 x2300] ([x2300] : List Int) := (RCs.cons (d := [.int .i64 x2300]) rfl rfl RCs.nil)
       refine wl_nil ?_
       have hH2606 := hS2604.toHeld.mono (Mem.le_refl _) (List.Sublist.subset (.cons _ (.cons _ (.cons _ (List.sublist_append_right _ _)))))
       refine ⟨hH2606, ?_⟩
       refine d_all (rs := [16]) (by kernel_rfl) (by simp) (fun j hj o ho => ?_)
       obtain rfl : j = 16 := by simpa using hj
       cases ho
       obtain ⟨R2607, hS2609, back2608⟩ := tab_take (A := [.row (.slice (some ⟨b2602, 0, none⟩) 1 1) 3 1 [.int .i64 x2300], .box b7 30 [.slice a2302 y2301.length c2304, .int .i64 r2435.2], .row (.slice (some ⟨b2482, 0, none⟩) (l2307.length + 1) c2338) 35 1 cs2343]) (L := L) hS2604 (take_get hes2484) hx2413
       simp only [List.cons_append, List.nil_append] at hS2609
       refine wl_call ent21 (vals := [.slice _ _ _, .int .i64 _, .slice _ _ _]) rfl (insert_rowI Try.lInsert hS2609 hc2447 hc2448) ?_
       rintro _ w2610 ⟨a2611, c2612, rfl, hS2613⟩
       have hS2615 := hS2613.weaken (.cons_cons _ (.cons _ (.cons_cons _ (.cons_cons _ (.refl _)))))
       refine wl_nil ?_
       have hH2616 := hS2615.toHeld.mono (Mem.le_refl _) (List.Sublist.subset (.cons _ (.cons _ (.cons _ (List.sublist_append_right _ _)))))
       refine ⟨hH2616, ?_⟩
       obtain ⟨es2617, hes2618, hR2619⟩ := row_read hrc2342 hx2460
       obtain ⟨a2620, c2621, rfl⟩ := hR2619
       refine d_v (i := 17) rfl (by kernel_rfl) rfl (r_indexAddr Try.underlying24 ty35 (b := _) (o := _) (n := _) (c := _) (i := r2325.1) rfl rfl h2461 (row_lt (hS2615.toHeld.own (.there (.there .here))) hrc2342 (by decide) h2462)) hH2616 ?_
       refine d_all (rs := [18]) (by kernel_rfl) (by simp) (fun j hj o ho => ?_)
       obtain rfl : j = 18 := by simpa using hj
       cases ho
       refine wl_store_row ty35 hS2615 rfl (v := .slice _ _ _) rfl (vs := [.slice _ _ _]) rfl rfl rfl (.there (.there .here)) (Nat.le_trans (by simp only [Nat.zero_add]; omega) (row_room hrc2342 hx2460)) ?_
       intro w2622 hS2623
       rw [spl_one (tab_lt hrc2342 hx2460)] at hS2623
       have hrc2624 := RCs.seti hrc2342 hx2460 (vs := [.slice a2611 ((insAt x2412 r2435.1.toNat x2300).length) c2612]) (y := (insAt x2412 r2435.1.toNat x2300)) rfl ⟨_, _, rfl⟩
       rw [spl_one (tab_lt hrc2342 hx2460)] at hrc2624
       have hS2626 := back2608 [.box b7 30 [.slice a2302 y2301.length c2304, .int .i64 r2435.2], .row (.slice (some ⟨b2482, 0, none⟩) (l2307.length + 1) c2338) 35 1 (cs2343.set r2325.1.toNat (.slice a2611 ((insAt x2412 r2435.1.toNat x2300).length) c2612))] _ _ _ hS2623
       simp only [List.cons_append, List.nil_append] at hS2626
       generalize cs2343.set r2325.1.toNat (.slice a2611 ((insAt x2412 r2435.1.toNat x2300).length) c2612) = cs2625 at hS2626 hrc2624
       refine wl_nil ?_
       have hH2627 := hS2626.toHeld.mono (Mem.le_refl _) (List.Sublist.subset (.cons _ (.cons _ (List.sublist_append_right _ _))))
       refine ⟨hH2627, ?_⟩
       refine d_end (by kernel_rfl) ?_
       exact ⟨_, _, _, _, row_n (hS2626.toHeld.own (.there .here)) hrc2624 (by decide), hrc2624, hS2626, rfl, rfl, rfl, rfl⟩
      ·cases ho
       refine wl_buildSlice Try.underlying35 ty3 rfl (by decide) (by decide) hS2481 (ps := [(0, [.int .i64 _])]) rfl rfl (cs := [.int .i64 _]) rfl rfl (by decide) ?_
       intro b2629 w2630 hS2631
       have hrc2632 : RCs 1 RInt m [.int .i64 x2300] ([x2300] : List Int) := (RCs.cons (d := [.int .i64 x2300]) rfl rfl RCs.nil)
       refine wl_nil ?_
       have hH2633 := hS2631.toHeld.mono (Mem.le_refl _) (List.Sublist.subset (.cons _ (.cons _ (.cons _ (List.sublist_append_right _ _)))))
       refine ⟨hH2633, ?_⟩
       refine d_all (rs := [13]) (by kernel_rfl) (by simp) (fun j hj o ho => ?_)
       obtain rfl : j = 13 := by simpa using hj
       cases ho
       have hS2634 := hS2631.front (.there (.there .here))
       refine wl_call ent7 (vals := [.pointer (some ⟨_, _, none⟩), .int .i64 _]) rfl (cg7 hS2634 hr2305 hq2436) ?_
       rintro _ w2636 ⟨rfl, hS2637⟩
       refine wl_nil ?_
       have hH2638 := hS2637.toHeld.mono (Mem.le_refl _) (List.Sublist.subset (.cons _ (.cons _ (.cons _ (List.sublist_append_right _ _)))))
       refine ⟨hH2638, ?_⟩
       refine d_all (rs := [16]) (by kernel_rfl) (by simp) (fun j hj o ho => ?_)
       obtain rfl : j = 16 := by simpa using hj
       cases ho
       have hS2639 := hS2637.front (.there .here)
       obtain ⟨R2640, hS2642, back2641⟩ := tab_take (A := [.row (.slice (some ⟨b2629, 0, none⟩) 1 1) 3 1 [.int .i64 x2300], .box b7 30 [.slice a2302 y2301.length c2304, .int .i64 r2435.2], .row (.slice (some ⟨b2482, 0, none⟩) (l2307.length + 1) c2338) 35 1 cs2343]) (L := L) hS2639 (take_get hes2484) hx2413
       simp only [List.cons_append, List.nil_append] at hS2642
       refine wl_call ent21 (vals := [.slice _ _ _, .int .i64 _, .slice _ _ _]) rfl (insert_rowI Try.lInsert hS2642 hc2447 hc2448) ?_
       rintro _ w2643 ⟨a2644, c2645, rfl, hS2646⟩
       have hS2648 := hS2646.weaken (.cons_cons _ (.cons _ (.cons_cons _ (.cons_cons _ (.refl _)))))
       refine wl_nil ?_
       have hH2649 := hS2648.toHeld.mono (Mem.le_refl _) (List.Sublist.subset (.cons _ (.cons _ (.cons _ (List.sublist_append_right _ _)))))
       refine ⟨hH2649, ?_⟩
       obtain ⟨es2650, hes2651, hR2652⟩ := row_read hrc2342 hx2460
       obtain ⟨a2653, c2654, rfl⟩ := hR2652
       refine d_v (i := 17) rfl (by kernel_rfl) rfl (r_indexAddr Try.underlying24 ty35 (b := _) (o := _) (n := _) (c := _) (i := r2325.1) rfl rfl h2461 (row_lt (hS2648.toHeld.own (.there (.there .here))) hrc2342 (by decide) h2462)) hH2649 ?_
       refine d_all (rs := [18]) (by kernel_rfl) (by simp) (fun j hj o ho => ?_)
       obtain rfl : j = 18 := by simpa using hj
       cases ho
       refine wl_store_row ty35 hS2648 rfl (v := .slice _ _ _) rfl (vs := [.slice _ _ _]) rfl rfl rfl (.there (.there .here)) (Nat.le_trans (by simp only [Nat.zero_add]; omega) (row_room hrc2342 hx2460)) ?_
       intro w2655 hS2656
       rw [spl_one (tab_lt hrc2342 hx2460)] at hS2656
       have hrc2657 := RCs.seti hrc2342 hx2460 (vs := [.slice a2644 ((insAt x2412 r2435.1.toNat x2300).length) c2645]) (y := (insAt x2412 r2435.1.toNat x2300)) rfl ⟨_, _, rfl⟩
       rw [spl_one (tab_lt hrc2342 hx2460)] at hrc2657
       have hS2659 := back2641 [.box b7 30 [.slice a2302 y2301.length c2304, .int .i64 r2435.2], .row (.slice (some ⟨b2482, 0, none⟩) (l2307.length + 1) c2338) 35 1 (cs2343.set r2325.1.toNat (.slice a2644 ((insAt x2412 r2435.1.toNat x2300).length) c2645))] _ _ _ hS2656
       simp only [List.cons_append, List.nil_append] at hS2659
       generalize cs2343.set r2325.1.toNat (.slice a2644 ((insAt x2412 r2435.1.toNat x2300).length) c2645) = cs2658 at hS2659 hrc2657
       refine wl_nil ?_
       have hH2660 := hS2659.toHeld.mono (Mem.le_refl _) (List.Sublist.subset (.cons _ (.cons _ (List.sublist_append_right _ _))))
       refine ⟨hH2660, ?_⟩
       refine d_end (by kernel_rfl) ?_
       exact ⟨_, _, _, _, row_n (hS2659.toHeld.own (.there .here)) hrc2657 (by decide), hrc2657, hS2659, rfl, rfl, rfl, rfl⟩
     ·cases ho
      have hS2661 := hS2481.front (.there .here)
      refine wl_call ent7 (vals := [.pointer (some ⟨_, _, none⟩), .int .i64 _]) rfl (cg7 hS2661 hr2305 hq2436) ?_
      rintro _ w2663 ⟨rfl, hS2664⟩
      refine wl_nil ?_
      have hH2665 := hS2664.toHeld.mono (Mem.le_refl _) (List.Sublist.subset (.cons _ (.cons _ (List.sublist_append_right _ _))))
      refine ⟨hH2665, ?_⟩
      refine d_all (rs := [5, 15]) (by kernel_rfl) (by simp) (fun j hj o ho => ?_)
      simp only [List.mem_cons, List.not_mem_nil, or_false] at hj
      rcases hj with rfl | rfl
      ·cases ho
       refine wl_h hS2664.toHeld (r_row ty35 (k := 0) (i := r2325.1.toNat) (.there .here) rfl rfl (row_room hrc2342 hx2413) hes2484 rfl (v := .slice _ _ _) rfl) <| wl_nil ?_
       have hH2666 := hS2664.toHeld.mono (Mem.le_refl _) (List.Sublist.subset (.cons _ (.cons _ (List.sublist_append_right _ _))))
       refine ⟨hH2666, ?_⟩
       refine d_all (rs := [15]) (by kernel_rfl) (by simp) (fun j hj o ho => ?_)
       obtain rfl : j = 15 := by simpa using hj
       cases ho
       refine wl_buildSlice Try.underlying35 ty3 rfl (by decide) (by decide) hS2664 (ps := [(0, [.int .i64 _])]) rfl rfl (cs := [.int .i64 _]) rfl rfl (by decide) ?_
       intro b2668 w2669 hS2670
       have hrc2671 : RCs 1 RInt m [.int .i64 x2300] ([x2300] : List Int) := (RCs.cons (d := [.int .i64 x2300]) rfl rfl RCs.nil)
       refine wl_nil ?_
       have hH2672 := hS2670.toHeld.mono (Mem.le_refl _) (List.Sublist.subset (.cons _ (.cons _ (.cons _ (List.sublist_append_right _ _)))))
       refine ⟨hH2672, ?_⟩
       refine d_all (rs := [16]) (by kernel_rfl) (by simp) (fun j hj o ho => ?_)
       obtain rfl : j = 16 := by simpa using hj
       cases ho
       obtain ⟨R2673, hS2675, back2674⟩ := tab_take (A := [.row (.slice (some ⟨b2668, 0, none⟩) 1 1) 3 1 [.int .i64 x2300], .box b7 30 [.slice a2302 y2301.length c2304, .int .i64 r2435.2], .row (.slice (some ⟨b2482, 0, none⟩) (l2307.length + 1) c2338) 35 1 cs2343]) (L := L) hS2670 (take_get hes2484) hx2413
       simp only [List.cons_append, List.nil_append] at hS2675
       refine wl_call ent21 (vals := [.slice _ _ _, .int .i64 _, .slice _ _ _]) rfl (insert_rowI Try.lInsert hS2675 hc2447 hc2448) ?_
       rintro _ w2676 ⟨a2677, c2678, rfl, hS2679⟩
       have hS2681 := hS2679.weaken (.cons_cons _ (.cons _ (.cons_cons _ (.cons_cons _ (.refl _)))))
       refine wl_nil ?_
       have hH2682 := hS2681.toHeld.mono (Mem.le_refl _) (List.Sublist.subset (.cons _ (.cons _ (.cons _ (List.sublist_append_right _ _)))))
       refine ⟨hH2682, ?_⟩
       obtain ⟨es2683, hes2684, hR2685⟩ := row_read hrc2342 hx2460
       obtain ⟨a2686, c2687, rfl⟩ := hR2685
       refine d_v (i := 17) rfl (by kernel_rfl) rfl (r_indexAddr Try.underlying24 ty35 (b := _) (o := _) (n := _) (c := _) (i := r2325.1) rfl rfl h2461 (row_lt (hS2681.toHeld.own (.there (.there .here))) hrc2342 (by decide) h2462)) hH2682 ?_
       refine d_all (rs := [18]) (by kernel_rfl) (by simp) (fun j hj o ho => ?_)
       obtain rfl : j = 18 := by simpa using hj
       cases ho
       refine wl_store_row ty35 hS2681 rfl (v := .slice _ _ _) rfl (vs := [.slice _ _ _]) rfl rfl rfl (.there (.there .here)) (Nat.le_trans (by simp only [Nat.zero_add]; omega) (row_room hrc2342 hx2460)) ?_
       intro w2688 hS2689
       rw [spl_one (tab_lt hrc2342 hx2460)] at hS2689
       have hrc2690 := RCs.seti hrc2342 hx2460 (vs := [.slice a2677 ((insAt x2412 r2435.1.toNat x2300).length) c2678]) (y := (insAt x2412 r2435.1.toNat x2300)) rfl ⟨_, _, rfl⟩
       rw [spl_one (tab_lt hrc2342 hx2460)] at hrc2690
       have hS2692 := back2674 [.box b7 30 [.slice a2302 y2301.length c2304, .int .i64 r2435.2], .row (.slice (some ⟨b2482, 0, none⟩) (l2307.length + 1) c2338) 35 1 (cs2343.set r2325.1.toNat (.slice a2677 ((insAt x2412 r2435.1.toNat x2300).length) c2678))] _ _ _ hS2689
       simp only [List.cons_append, List.nil_append] at hS2692
       generalize cs2343.set r2325.1.toNat (.slice a2677 ((insAt x2412 r2435.1.toNat x2300).length) c2678) = cs2691 at hS2692 hrc2690
       refine wl_nil ?_
       have hH2693 := hS2692.toHeld.mono (Mem.le_refl _) (List.Sublist.subset (.cons _ (.cons _ (List.sublist_append_right _ _))))
       refine ⟨hH2693, ?_⟩
       refine d_end (by kernel_rfl) ?_
       exact ⟨_, _, _, _, row_n (hS2692.toHeld.own (.there .here)) hrc2690 (by decide), hrc2690, hS2692, rfl, rfl, rfl, rfl⟩
      ·cases ho
       refine wl_buildSlice Try.underlying35 ty3 rfl (by decide) (by decide) hS2664 (ps := [(0, [.int .i64 _])]) rfl rfl (cs := [.int .i64 _]) rfl rfl (by decide) ?_
       intro b2695 w2696 hS2697
       have hrc2698 : RCs 1 RInt m [.int .i64 x2300] ([x2300] : List Int) := (RCs.cons (d := [.int .i64 x2300]) rfl rfl RCs.nil)
       refine wl_nil ?_
       have hH2699 := hS2697.toHeld.mono (Mem.le_refl _) (List.Sublist.subset (.cons _ (.cons _ (.cons _ (List.sublist_append_right _ _)))))
       refine ⟨hH2699, ?_⟩
       refine d_all (rs := [5]) (by kernel_rfl) (by simp) (fun j hj o ho => ?_)
       obtain rfl : j = 5 := by simpa using hj
       cases ho
       refine wl_h hS2697.toHeld (r_row ty35 (k := 0) (i := r2325.1.toNat) (.there (.there .here)) rfl rfl (row_room hrc2342 hx2413) hes2484 rfl (v := .slice _ _ _) rfl) <| wl_nil ?_
       have hH2700 := hS2697.toHeld.mono (Mem.le_refl _) (List.Sublist.subset (.cons _ (.cons _ (.cons _ (List.sublist_append_right _ _)))))
       refine ⟨hH2700, ?_⟩
       refine d_all (rs := [16]) (by kernel_rfl) (by simp) (fun j hj o ho => ?_)
       obtain rfl : j = 16 := by simpa using hj
       cases ho
       obtain ⟨R2701, hS2703, back2702⟩ := tab_take (A := [.row (.slice (some ⟨b2695, 0, none⟩) 1 1) 3 1 [.int .i64 x2300], .box b7 30 [.slice a2302 y2301.length c2304, .int .i64 r2435.2], .row (.slice (some ⟨b2482, 0, none⟩) (l2307.length + 1) c2338) 35 1 cs2343]) (L := L) hS2697 (take_get hes2484) hx2413
       simp only [List.cons_append, List.nil_append] at hS2703
       refine wl_call ent21 (vals := [.slice _ _ _, .int .i64 _, .slice _ _ _]) rfl (insert_rowI Try.lInsert hS2703 hc2447 hc2448) ?_
       rintro _ w2704 ⟨a2705, c2706, rfl, hS2707⟩
       have hS2709 := hS2707.weaken (.cons_cons _ (.cons _ (.cons_cons _ (.cons_cons _ (.refl _)))))
       refine wl_nil ?_
       have hH2710 := hS2709.toHeld.mono (Mem.le_refl _) (List.Sublist.subset (.cons _ (.cons _ (.cons _ (List.sublist_append_right _ _)))))
       refine ⟨hH2710, ?_⟩
       obtain ⟨es2711, hes2712, hR2713⟩ := row_read hrc2342 hx2460
       obtain ⟨a2714, c2715, rfl⟩ := hR2713
       refine d_v (i := 17) rfl (by kernel_rfl) rfl (r_indexAddr Try.underlying24 ty35 (b := _) (o := _) (n := _) (c := _) (i := r2325.1) rfl rfl h2461 (row_lt (hS2709.toHeld.own (.there (.there .here))) hrc2342 (by decide) h2462)) hH2710 ?_
       refine d_all (rs := [18]) (by kernel_rfl) (by simp) (fun j hj o ho => ?_)
       obtain rfl : j = 18 := by simpa using hj
       cases ho
       refine wl_store_row ty35 hS2709 rfl (v := .slice _ _ _) rfl (vs := [.slice _ _ _]) rfl rfl rfl (.there (.there .here)) (Nat.le_trans (by simp only [Nat.zero_add]; omega) (row_room hrc2342 hx2460)) ?_
       intro w2716 hS2717
       rw [spl_one (tab_lt hrc2342 hx2460)] at hS2717
       have hrc2718 := RCs.seti hrc2342 hx2460 (vs := [.slice a2705 ((insAt x2412 r2435.1.toNat x2300).length) c2706]) (y := (insAt x2412 r2435.1.toNat x2300)) rfl ⟨_, _, rfl⟩
       rw [spl_one (tab_lt hrc2342 hx2460)] at hrc2718
       have hS2720 := back2702 [.box b7 30 [.slice a2302 y2301.length c2304, .int .i64 r2435.2], .row (.slice (some ⟨b2482, 0, none⟩) (l2307.length + 1) c2338) 35 1 (cs2343.set r2325.1.toNat (.slice a2705 ((insAt x2412 r2435.1.toNat x2300).length) c2706))] _ _ _ hS2717
       simp only [List.cons_append, List.nil_append] at hS2720
       generalize cs2343.set r2325.1.toNat (.slice a2705 ((insAt x2412 r2435.1.toNat x2300).length) c2706) = cs2719 at hS2720 hrc2718
       refine wl_nil ?_
       have hH2721 := hS2720.toHeld.mono (Mem.le_refl _) (List.Sublist.subset (.cons _ (.cons _ (List.sublist_append_right _ _))))
       refine ⟨hH2721, ?_⟩
       refine d_end (by kernel_rfl) ?_
       exact ⟨_, _, _, _, row_n (hS2720.toHeld.own (.there .here)) hrc2718 (by decide), hrc2718, hS2720, rfl, rfl, rfl, rfl⟩
     ·cases ho
      refine wl_buildSlice Try.underlying35 ty3 rfl (by decide) (by decide) hS2481 (ps := [(0, [.int .i64 _])]) rfl rfl (cs := [.int .i64 _]) rfl rfl (by decide) ?_
      intro b2723 w2724 hS2725
      have hrc2726 : RCs 1 RInt m [.int .i64 x2300] ([x2300] : List Int) := (RCs.cons (d := [.int .i64 x2300]) rfl rfl RCs.nil)
      refine wl_nil ?_
      have hH2727 := hS2725.toHeld.mono (Mem.le_refl _) (List.Sublist.subset (.cons _ (.cons _ (.cons _ (List.sublist_append_right _ _)))))
      refine ⟨hH2727, ?_⟩
      refine d_all (rs := [5, 13]) (by kernel_rfl) (by simp) (fun j hj o ho => ?_)
      simp only [List.mem_cons, List.not_mem_nil, or_false] at hj
      rcases hj with rfl | rfl
      ·cases ho
       refine wl_h hS2725.toHeld (r_row ty35 (k := 0) (i := r2325.1.toNat) (.there .here) rfl rfl (row_room hrc2342 hx2413) hes2484 rfl (v := .slice _ _ _) rfl) <| wl_nil ?_
       have hH2728 := hS2725.toHeld.mono (Mem.le_refl _) (List.Sublist.subset (.cons _ (.cons _ (.cons _ (List.sublist_append_right _ _)))))
       refine ⟨hH2728, ?_⟩
       refine d_all (rs := [13]) (by kernel_rfl) (by simp) (fun j hj o ho => ?_)
       obtain rfl : j = 13 := by simpa using hj
       cases ho
       have hS2729 := hS2725.front (.there (.there .here))
       refine wl_call ent7 (vals := [.pointer (some ⟨_, _, none⟩), .int .i64 _]) rfl (cg7 hS2729 hr2305 hq2436) ?_
       rintro _ w2731 ⟨rfl, hS2732⟩
       refine wl_nil ?_
       have hH2733 := hS2732.toHeld.mono (Mem.le_refl _) (List.Sublist.subset (.cons _ (.cons _ (.cons _ (List.sublist_append_right _ _)))))
       refine ⟨hH2733, ?_⟩
       refine d_all (rs := [16]) (by kernel_rfl) (by simp) (fun j hj o ho => ?_)
       obtain rfl : j = 16 := by simpa using hj
       cases ho
       have hS2734 := hS2732.front (.there .here)
       obtain ⟨R2735, hS2737, back2736⟩ := tab_take (A := [.row (.slice (some ⟨b2723, 0, none⟩) 1 1) 3 1 [.int .i64 x2300], .box b7 30 [.slice a2302 y2301.length c2304, .int .i64 r2435.2], .row (.slice (some ⟨b2482, 0, none⟩) (l2307.length + 1) c2338) 35 1 cs2343]) (L := L) hS2734 (take_get hes2484) hx2413
       simp only [List.cons_append, List.nil_append] at hS2737
       refine wl_call ent21 (vals := [.slice _ _ _, .int .i64 _, .slice _ _ _]) rfl (insert_rowI Try.lInsert hS2737 hc2447 hc2448) ?_
       rintro _ w2738 ⟨a2739, c2740, rfl, hS2741⟩
       have hS2743 := hS2741.weaken (.cons_cons _ (.cons _ (.cons_cons _ (.cons_cons _ (.refl _)))))
       refine wl_nil ?_
       have hH2744 := hS2743.toHeld.mono (Mem.le_refl _) (List.Sublist.subset (.cons _ (.cons _ (.cons _ (List.sublist_append_right _ _)))))
       refine ⟨hH2744, ?_⟩
       obtain ⟨es2745, hes2746, hR2747⟩ := row_read hrc2342 hx2460
       obtain ⟨a2748, c2749, rfl⟩ := hR2747
       refine d_v (i := 17) rfl (by kernel_rfl) rfl (r_indexAddr Try.underlying24 ty35 (b := _) (o := _) (n := _) (c := _) (i := r2325.1) rfl rfl h2461 (row_lt (hS2743.toHeld.own (.there (.there .here))) hrc2342 (by decide) h2462)) hH2744 ?_
       refine d_all (rs := [18]) (by kernel_rfl) (by simp) (fun j hj o ho => ?_)
       obtain rfl : j = 18 := by simpa using hj
       cases ho
       refine wl_store_row ty35 hS2743 rfl (v := .slice _ _ _) rfl (vs := [.slice _ _ _]) rfl rfl rfl (.there (.there .here)) (Nat.le_trans (by simp only [Nat.zero_add]; omega) (row_room hrc2342 hx2460)) ?_
       intro w2750 hS2751
       rw [spl_one (tab_lt hrc2342 hx2460)] at hS2751
       have hrc2752 := RCs.seti hrc2342 hx2460 (vs := [.slice a2739 ((insAt x2412 r2435.1.toNat x2300).length) c2740]) (y := (insAt x2412 r2435.1.toNat x2300)) rfl ⟨_, _, rfl⟩
       rw [spl_one (tab_lt hrc2342 hx2460)] at hrc2752
       have hS2754 := back2736 [.box b7 30 [.slice a2302 y2301.length c2304, .int .i64 r2435.2], .row (.slice (some ⟨b2482, 0, none⟩) (l2307.length + 1) c2338) 35 1 (cs2343.set r2325.1.toNat (.slice a2739 ((insAt x2412 r2435.1.toNat x2300).length) c2740))] _ _ _ hS2751
       simp only [List.cons_append, List.nil_append] at hS2754
       generalize cs2343.set r2325.1.toNat (.slice a2739 ((insAt x2412 r2435.1.toNat x2300).length) c2740) = cs2753 at hS2754 hrc2752
       refine wl_nil ?_
       have hH2755 := hS2754.toHeld.mono (Mem.le_refl _) (List.Sublist.subset (.cons _ (.cons _ (List.sublist_append_right _ _))))
       refine ⟨hH2755, ?_⟩
       refine d_end (by kernel_rfl) ?_
       exact ⟨_, _, _, _, row_n (hS2754.toHeld.own (.there .here)) hrc2752 (by decide), hrc2752, hS2754, rfl, rfl, rfl, rfl⟩
      ·cases ho
       have hS2756 := hS2725.front (.there (.there .here))
       refine wl_call ent7 (vals := [.pointer (some ⟨_, _, none⟩), .int .i64 _]) rfl (cg7 hS2756 hr2305 hq2436) ?_
       rintro _ w2758 ⟨rfl, hS2759⟩
       refine wl_nil ?_
       have hH2760 := hS2759.toHeld.mono (Mem.le_refl _) (List.Sublist.subset (.cons _ (.cons _ (.cons _ (List.sublist_append_right _ _)))))
       refine ⟨hH2760, ?_⟩
       refine d_all (rs := [5]) (by kernel_rfl) (by simp) (fun j hj o ho => ?_)
       obtain rfl : j = 5 := by simpa using hj
       cases ho
       refine wl_h hS2759.toHeld (r_row ty35 (k := 0) (i := r2325.1.toNat) (.there (.there .here)) rfl rfl (row_room hrc2342 hx2413) hes2484 rfl (v := .slice _ _ _) rfl) <| wl_nil ?_
       have hH2761 := hS2759.toHeld.mono (Mem.le_refl _) (List.Sublist.subset (.cons _ (.cons _ (.cons _ (List.sublist_append_right _ _)))))
       refine ⟨hH2761, ?_⟩
       refine d_all (rs := [16]) (by kernel_rfl) (by simp) (fun j hj o ho => ?_)
       obtain rfl : j = 16 := by simpa using hj
       cases ho
       have hS2762 := hS2759.front (.there .here)
       obtain ⟨R2763, hS2765, back2764⟩ := tab_take (A := [.row (.slice (some ⟨b2723, 0, none⟩) 1 1) 3 1 [.int .i64 x2300], .box b7 30 [.slice a2302 y2301.length c2304, .int .i64 r2435.2], .row (.slice (some ⟨b2482, 0, none⟩) (l2307.length + 1) c2338) 35 1 cs2343]) (L := L) hS2762 (take_get hes2484) hx2413
       simp only [List.cons_append, List.nil_append] at hS2765
       refine wl_call ent21 (vals := [.slice _ _ _, .int .i64 _, .slice _ _ _]) rfl (insert_rowI Try.lInsert hS2765 hc2447 hc2448) ?_
       rintro _ w2766 ⟨a2767, c2768, rfl, hS2769⟩
       have hS2771 := hS2769.weaken (.cons_cons _ (.cons _ (.cons_cons _ (.cons_cons _ (.refl _)))))
       refine wl_nil ?_
       have hH2772 := hS2771.toHeld.mono (Mem.le_refl _) (List.Sublist.subset (.cons _ (.cons _ (.cons _ (List.sublist_append_right _ _)))))
       refine ⟨hH2772, ?_⟩
       obtain ⟨es2773, hes2774, hR2775⟩ := row_read hrc2342 hx2460
       obtain ⟨a2776, c2777, rfl⟩ := hR2775
       refine d_v (i := 17) rfl (by kernel_rfl) rfl (r_indexAddr Try.underlying24 ty35 (b := _) (o := _) (n := _) (c := _) (i := r2325.1) rfl rfl h2461 (row_lt (hS2771.toHeld.own (.there (.there .here))) hrc2342 (by decide) h2462)) hH2772 ?_
       refine d_all (rs := [18]) (by kernel_rfl) (by simp) (fun j hj o ho => ?_)
       obtain rfl : j = 18 := by simpa using hj
       cases ho
       refine wl_store_row ty35 hS2771 rfl (v := .slice _ _ _) rfl (vs := [.slice _ _ _]) rfl rfl rfl (.there (.there .here)) (Nat.le_trans (by simp only [Nat.zero_add]; omega) (row_room hrc2342 hx2460)) ?_
       intro w2778 hS2779
       rw [spl_one (tab_lt hrc2342 hx2460)] at hS2779
       have hrc2780 := RCs.seti hrc2342 hx2460 (vs := [.slice a2767 ((insAt x2412 r2435.1.toNat x2300).length) c2768]) (y := (insAt x2412 r2435.1.toNat x2300)) rfl ⟨_, _, rfl⟩
       rw [spl_one (tab_lt hrc2342 hx2460)] at hrc2780
       have hS2782 := back2764 [.box b7 30 [.slice a2302 y2301.length c2304, .int .i64 r2435.2], .row (.slice (some ⟨b2482, 0, none⟩) (l2307.length + 1) c2338) 35 1 (cs2343.set r2325.1.toNat (.slice a2767 ((insAt x2412 r2435.1.toNat x2300).length) c2768))] _ _ _ hS2779
       simp only [List.cons_append, List.nil_append] at hS2782
       generalize cs2343.set r2325.1.toNat (.slice a2767 ((insAt x2412 r2435.1.toNat x2300).length) c2768) = cs2781 at hS2782 hrc2780
       refine wl_nil ?_
       have hH2783 := hS2782.toHeld.mono (Mem.le_refl _) (List.Sublist.subset (.cons _ (.cons _ (List.sublist_append_right _ _))))
       refine ⟨hH2783, ?_⟩
       refine d_end (by kernel_rfl) ?_
       exact ⟨_, _, _, _, row_n (hS2782.toHeld.own (.there .here)) hrc2780 (by decide), hrc2780, hS2782, rfl, rfl, rfl, rfl⟩
    ·cases ho
     refine wl_buildSlice Try.underlying35 ty3 rfl (by decide) (by decide) hS2481 (ps := [(0, [.int .i64 _])]) rfl rfl (cs := [.int .i64 _]) rfl rfl (by decide) ?_
     intro b2785 w2786 hS2787
     have hrc2788 : RCs 1 RInt m [.int .i64 x2300] ([x2300] : List Int) := (RCs.cons (d := [.int .i64 x2300]) rfl rfl RCs.nil)
     refine wl_nil ?_
     have hH2789 := hS2787.toHeld.mono (Mem.le_refl _) (List.Sublist.subset (.cons _ (.cons _ (.cons _ (List.sublist_append_right _ _)))))
     refine ⟨hH2789, ?_⟩
     refine d_all (rs := [5, 10]) (by kernel_rfl) (by simp) (fun j hj o ho => ?_)
     simp only [List.mem_cons, List.not_mem_nil, or_false] at hj
     rcases hj with rfl | rfl
     ·cases ho
      refine wl_h hS2787.toHeld (r_row ty35 (k := 0) (i := r2325.1.toNat) (.there .here) rfl rfl (row_room hrc2342 hx2413) hes2484 rfl (v := .slice _ _ _) rfl) <| wl_nil ?_
      have hH2790 := hS2787.toHeld.mono (Mem.le_refl _) (List.Sublist.subset (.cons _ (.cons _ (.cons _ (List.sublist_append_right _ _)))))
      refine ⟨hH2790, ?_⟩
      refine d_all (rs := [10]) (by kernel_rfl) (by simp) (fun j hj o ho => ?_)
      obtain rfl : j = 10 := by simpa using hj
      cases ho
      refine wl_h hS2787.toHeld (r_row ty35 (k := 0) (i := r2325.1.toNat) (.there .here) rfl rfl (row_room hrc2342 hx2423) hes2489 rfl (v := .slice _ _ _) rfl) <| wl_nil ?_
      have hH2791 := hS2787.toHeld.mono (Mem.le_refl _) (List.Sublist.subset (.cons _ (.cons _ (.cons _ (List.sublist_append_right _ _)))))
      refine ⟨hH2791, ?_⟩
      refine d_v (i := 11) rfl (by kernel_rfl) rfl (r_len Try.underlying35 (a := _) (n := _) (c := _) rfl) hH2791 ?_
      refine d_v (i := 12) rfl (by kernel_rfl) rfl (r_add (a := _) (b := _) rfl rfl (ok_lo hc2433) (ok_hi hc2433)) hH2791 ?_
      refine d_all (rs := [13]) (by kernel_rfl) (by simp) (fun j hj o ho => ?_)
      obtain rfl : j = 13 := by simpa using hj
      cases ho
      have hS2792 := hS2787.front (.there (.there .here))
      refine wl_call ent7 (vals := [.pointer (some ⟨_, _, none⟩), .int .i64 _]) rfl (cg7 hS2792 hr2305 hq2436) ?_
      rintro _ w2794 ⟨rfl, hS2795⟩
      refine wl_nil ?_
      have hH2796 := hS2795.toHeld.mono (Mem.le_refl _) (List.Sublist.subset (.cons _ (.cons _ (.cons _ (List.sublist_append_right _ _)))))
      refine ⟨hH2796, ?_⟩
      refine d_all (rs := [16]) (by kernel_rfl) (by simp) (fun j hj o ho => ?_)
      obtain rfl : j = 16 := by simpa using hj
      cases ho
      have hS2797 := hS2795.front (.there .here)
      obtain ⟨R2798, hS2800, back2799⟩ := tab_take (A := [.row (.slice (some ⟨b2785, 0, none⟩) 1 1) 3 1 [.int .i64 x2300], .box b7 30 [.slice a2302 y2301.length c2304, .int .i64 r2435.2], .row (.slice (some ⟨b2482, 0, none⟩) (l2307.length + 1) c2338) 35 1 cs2343]) (L := L) hS2797 (take_get hes2484) hx2413
      simp only [List.cons_append, List.nil_append] at hS2800
      refine wl_call ent21 (vals := [.slice _ _ _, .int .i64 _, .slice _ _ _]) rfl (insert_rowI Try.lInsert hS2800 hc2447 hc2448) ?_
      rintro _ w2801 ⟨a2802, c2803, rfl, hS2804⟩
      have hS2806 := hS2804.weaken (.cons_cons _ (.cons _ (.cons_cons _ (.cons_cons _ (.refl _)))))
      refine wl_nil ?_
      have hH2807 := hS2806.toHeld.mono (Mem.le_refl _) (List.Sublist.subset (.cons _ (.cons _ (.cons _ (List.sublist_append_right _ _)))))
      refine ⟨hH2807, ?_⟩
      obtain ⟨es2808, hes2809, hR2810⟩ := row_read hrc2342 hx2460
      obtain ⟨a2811, c2812, rfl⟩ := hR2810
      refine d_v (i := 17) rfl (by kernel_rfl) rfl (r_indexAddr Try.underlying24 ty35 (b := _) (o := _) (n := _) (c := _) (i := r2325.1) rfl rfl h2461 (row_lt (hS2806.toHeld.own (.there (.there .here))) hrc2342 (by decide) h2462)) hH2807 ?_
      refine d_all (rs := [18]) (by kernel_rfl) (by simp) (fun j hj o ho => ?_)
      obtain rfl : j = 18 := by simpa using hj
      cases ho
      refine wl_store_row ty35 hS2806 rfl (v := .slice _ _ _) rfl (vs := [.slice _ _ _]) rfl rfl rfl (.there (.there .here)) (Nat.le_trans (by simp only [Nat.zero_add]; omega) (row_room hrc2342 hx2460)) ?_
      intro w2813 hS2814
      rw [spl_one (tab_lt hrc2342 hx2460)] at hS2814
      have hrc2815 := RCs.seti hrc2342 hx2460 (vs := [.slice a2802 ((insAt x2412 r2435.1.toNat x2300).length) c2803]) (y := (insAt x2412 r2435.1.toNat x2300)) rfl ⟨_, _, rfl⟩
      rw [spl_one (tab_lt hrc2342 hx2460)] at hrc2815
      have hS2817 := back2799 [.box b7 30 [.slice a2302 y2301.length c2304, .int .i64 r2435.2], .row (.slice (some ⟨b2482, 0, none⟩) (l2307.length + 1) c2338) 35 1 (cs2343.set r2325.1.toNat (.slice a2802 ((insAt x2412 r2435.1.toNat x2300).length) c2803))] _ _ _ hS2814
      simp only [List.cons_append, List.nil_append] at hS2817
      generalize cs2343.set r2325.1.toNat (.slice a2802 ((insAt x2412 r2435.1.toNat x2300).length) c2803) = cs2816 at hS2817 hrc2815
      refine wl_nil ?_
      have hH2818 := hS2817.toHeld.mono (Mem.le_refl _) (List.Sublist.subset (.cons _ (.cons _ (List.sublist_append_right _ _))))
      refine ⟨hH2818, ?_⟩
      refine d_end (by kernel_rfl) ?_
      exact ⟨_, _, _, _, row_n (hS2817.toHeld.own (.there .here)) hrc2815 (by decide), hrc2815, hS2817, rfl, rfl, rfl, rfl⟩
     ·cases ho
      refine wl_h hS2787.toHeld (r_row ty35 (k := 0) (i := r2325.1.toNat) (.there .here) rfl rfl (row_room hrc2342 hx2423) hes2489 rfl (v := .slice _ _ _) rfl) <| wl_nil ?_
      have hH2819 := hS2787.toHeld.mono (Mem.le_refl _) (List.Sublist.subset (.cons _ (.cons _ (.cons _ (List.sublist_append_right _ _)))))
      refine ⟨hH2819, ?_⟩
      refine d_v (i := 11) rfl (by kernel_rfl) rfl (r_len Try.underlying35 (a := _) (n := _) (c := _) rfl) hH2819 ?_
      refine d_v (i := 12) rfl (by kernel_rfl) rfl (r_add (a := _) (b := _) rfl rfl (ok_lo hc2433) (ok_hi hc2433)) hH2819 ?_
      refine d_all (rs := [5, 13]) (by kernel_rfl) (by simp) (fun j hj o ho => ?_)
      simp only [List.mem_cons, List.not_mem_nil, or_false] at hj
      rcases hj with rfl | rfl
      ·cases ho
       refine wl_h hS2787.toHeld (r_row ty35 (k := 0) (i := r2325.1.toNat) (.there .here) rfl rfl (row_room hrc2342 hx2413) hes2484 rfl (v := .slice _ _ _) rfl) <| wl_nil ?_
       have hH2820 := hS2787.toHeld.mono (Mem.le_refl _) (List.Sublist.subset (.cons _ (.cons _ (.cons _ (List.sublist_append_right _ _)))))
       refine ⟨hH2820, ?_⟩
       refine d_all (rs := [13]) (by kernel_rfl) (by simp) (fun j hj o ho => ?_)
       obtain rfl : j = 13 := by simpa using hj
       cases ho
       have hS2821 := hS2787.front (.there (.there .here))
       refine wl_call ent7 (vals := [.pointer (some ⟨_, _, none⟩), .int .i64 _]) rfl (cg7 hS2821 hr2305 hq2436) ?_
       rintro _ w2823 ⟨rfl, hS2824⟩
       refine wl_nil ?_
       have hH2825 := hS2824.toHeld.mono (Mem.le_refl _) (List.Sublist.subset (.cons _ (.cons _ (.cons _ (List.sublist_append_right _ _)))))
       refine ⟨hH2825, ?_⟩
       refine d_all (rs := [16]) (by kernel_rfl) (by simp) (fun j hj o ho => ?_)
       obtain rfl : j = 16 := by simpa using hj
       cases ho
       have hS2826 := hS2824.front (.there .here)
       obtain ⟨R2827, hS2829, back2828⟩ := tab_take (A := [.row (.slice (some ⟨b2785, 0, none⟩) 1 1) 3 1 [.int .i64 x2300], .box b7 30 [.slice a2302 y2301.length c2304, .int .i64 r2435.2], .row (.slice (some ⟨b2482, 0, none⟩) (l2307.length + 1) c2338) 35 1 cs2343]) (L := L) hS2826 (take_get hes2484) hx2413
       simp only [List.cons_append, List.nil_append] at hS2829
       refine wl_call ent21 (vals := [.slice _ _ _, .int .i64 _, .slice _ _ _]) rfl (insert_rowI Try.lInsert hS2829 hc2447 hc2448) ?_
       rintro _ w2830 ⟨a2831, c2832, rfl, hS2833⟩
       have hS2835 := hS2833.weaken (.cons_cons _ (.cons _ (.cons_cons _ (.cons_cons _ (.refl _)))))
       refine wl_nil ?_
       have hH2836 := hS2835.toHeld.mono (Mem.le_refl _) (List.Sublist.subset (.cons _ (.cons _ (.cons _ (List.sublist_append_right _ _)))))
       refine ⟨hH2836, ?_⟩
       obtain ⟨es2837, hes2838, hR2839⟩ := row_read hrc2342 hx2460
       obtain ⟨a2840, c2841, rfl⟩ := hR2839
       refine d_v (i := 17) rfl (by kernel_rfl) rfl (r_indexAddr Try.underlying24 ty35 (b := _) (o := _) (n := _) (c := _) (i := r2325.1) rfl rfl h2461 (row_lt (hS2835.toHeld.own (.there (.there .here))) hrc2342 (by decide) h2462)) hH2836 ?_
       refine d_all (rs := [18]) (by kernel_rfl) (by simp) (fun j hj o ho => ?_)
       obtain rfl : j = 18 := by simpa using hj
       cases ho
       refine wl_store_row ty35 hS2835 rfl (v := .slice _ _ _) rfl (vs := [.slice _ _ _]) rfl rfl rfl (.there (.there .here)) (Nat.le_trans (by simp only [Nat.zero_add]; omega) (row_room hrc2342 hx2460)) ?_
       intro w2842 hS2843
       rw [spl_one (tab_lt hrc2342 hx2460)] at hS2843
       have hrc2844 := RCs.seti hrc2342 hx2460 (vs := [.slice a2831 ((insAt x2412 r2435.1.toNat x2300).length) c2832]) (y := (insAt x2412 r2435.1.toNat x2300)) rfl ⟨_, _, rfl⟩
       rw [spl_one (tab_lt hrc2342 hx2460)] at hrc2844
       have hS2846 := back2828 [.box b7 30 [.slice a2302 y2301.length c2304, .int .i64 r2435.2], .row (.slice (some ⟨b2482, 0, none⟩) (l2307.length + 1) c2338) 35 1 (cs2343.set r2325.1.toNat (.slice a2831 ((insAt x2412 r2435.1.toNat x2300).length) c2832))] _ _ _ hS2843
       simp only [List.cons_append, List.nil_append] at hS2846
       generalize cs2343.set r2325.1.toNat (.slice a2831 ((insAt x2412 r2435.1.toNat x2300).length) c2832) = cs2845 at hS2846 hrc2844
       refine wl_nil ?_
       have hH2847 := hS2846.toHeld.mono (Mem.le_refl _) (List.Sublist.subset (.cons _ (.cons _ (List.sublist_append_right _ _))))
       refine ⟨hH2847, ?_⟩
       refine d_end (by kernel_rfl) ?_
       exact ⟨_, _, _, _, row_n (hS2846.toHeld.own (.there .here)) hrc2844 (by decide), hrc2844, hS2846, rfl, rfl, rfl, rfl⟩
      ·cases ho
       have hS2848 := hS2787.front (.there (.there .here))
       refine wl_call ent7 (vals := [.pointer (some ⟨_, _, none⟩), .int .i64 _]) rfl (cg7 hS2848 hr2305 hq2436) ?_
       rintro _ w2850 ⟨rfl, hS2851⟩
       refine wl_nil ?_
       have hH2852 := hS2851.toHeld.mono (Mem.le_refl _) (List.Sublist.subset (.cons _ (.cons _ (.cons _ (List.sublist_append_right _ _)))))
       refine ⟨hH2852, ?_⟩
       refine d_all (rs := [5]) (by kernel_rfl) (by simp) (fun j hj o ho => ?_)
       obtain rfl : j = 5 := by simpa using hj
       cases ho
       refine wl_h hS2851.toHeld (r_row ty35 (k := 0) (i := r2325.1.toNat) (.there (.there .here)) rfl rfl (row_room hrc2342 hx2413) hes2484 rfl (v := .slice _ _ _) rfl) <| wl_nil ?_
       have hH2853 := hS2851.toHeld.mono (Mem.le_refl _) (List.Sublist.subset (.cons _ (.cons _ (.cons _ (List.sublist_append_right _ _)))))
       refine ⟨hH2853, ?_⟩
       refine d_all (rs := [16]) (by kernel_rfl) (by simp) (fun j hj o ho => ?_)
       obtain rfl : j = 16 := by simpa using hj
       cases ho
       have hS2854 := hS2851.front (.there .here)
       obtain ⟨R2855, hS2857, back2856⟩ := tab_take (A := [.row (.slice (some ⟨b2785, 0, none⟩) 1 1) 3 1 [.int .i64 x2300], .box b7 30 [.slice a2302 y2301.length c2304, .int .i64 r2435.2], .row (.slice (some ⟨b2482, 0, none⟩) (l2307.length + 1) c2338) 35 1 cs2343]) (L := L) hS2854 (take_get hes2484) hx2413
       simp only [List.cons_append, List.nil_append] at hS2857
       refine wl_call ent21 (vals := [.slice _ _ _, .int .i64 _, .slice _ _ _]) rfl (insert_rowI Try.lInsert hS2857 hc2447 hc2448) ?_
       rintro _ w2858 ⟨a2859, c2860, rfl, hS2861⟩
       have hS2863 := hS2861.weaken (.cons_cons _ (.cons _ (.cons_cons _ (.cons_cons _ (.refl _)))))
       refine wl_nil ?_
       have hH2864 := hS2863.toHeld.mono (Mem.le_refl _) (List.Sublist.subset (.cons _ (.cons _ (.cons _ (List.sublist_append_right _ _)))))
       refine ⟨hH2864, ?_⟩
       obtain ⟨es2865, hes2866, hR2867⟩ := row_read hrc2342 hx2460
       obtain ⟨a2868, c2869, rfl⟩ := hR2867
       refine d_v (i := 17) rfl (by kernel_rfl) rfl (r_indexAddr Try.underlying24 ty35 (b := _) (o := _) (n := _) (c := _) (i := r2325.1) rfl rfl h2461 (row_lt (hS2863.toHeld.own (.there (.there .here))) hrc2342 (by decide) h2462)) hH2864 ?_
       refine d_all (rs := [18]) (by kernel_rfl) (by simp) (fun j hj o ho => ?_)
       obtain rfl : j = 18 := by simpa using hj
       cases ho
       refine wl_store_row ty35 hS2863 rfl (v := .slice _ _ _) rfl (vs := [.slice _ _ _]) rfl rfl rfl (.there (.there .here)) (Nat.le_trans (by simp only [Nat.zero_add]; omega) (row_room hrc2342 hx2460)) ?_
       intro w2870 hS2871
       rw [spl_one (tab_lt hrc2342 hx2460)] at hS2871
       have hrc2872 := RCs.seti hrc2342 hx2460 (vs := [.slice a2859 ((insAt x2412 r2435.1.toNat x2300).length) c2860]) (y := (insAt x2412 r2435.1.toNat x2300)) rfl ⟨_, _, rfl⟩
       rw [spl_one (tab_lt hrc2342 hx2460)] at hrc2872
       have hS2874 := back2856 [.box b7 30 [.slice a2302 y2301.length c2304, .int .i64 r2435.2], .row (.slice (some ⟨b2482, 0, none⟩) (l2307.length + 1) c2338) 35 1 (cs2343.set r2325.1.toNat (.slice a2859 ((insAt x2412 r2435.1.toNat x2300).length) c2860))] _ _ _ hS2871
       simp only [List.cons_append, List.nil_append] at hS2874
       generalize cs2343.set r2325.1.toNat (.slice a2859 ((insAt x2412 r2435.1.toNat x2300).length) c2860) = cs2873 at hS2874 hrc2872
       refine wl_nil ?_
       have hH2875 := hS2874.toHeld.mono (Mem.le_refl _) (List.Sublist.subset (.cons _ (.cons _ (List.sublist_append_right _ _))))
       refine ⟨hH2875, ?_⟩
       refine d_end (by kernel_rfl) ?_
       exact ⟨_, _, _, _, row_n (hS2874.toHeld.own (.there .here)) hrc2872 (by decide), hrc2872, hS2874, rfl, rfl, rfl, rfl⟩
   ·rintro f2881 w2882 ⟨a2474, n2475, c2476, cs2477, hn2478, hrc2479, hS2876, e2877, e2878, e2879, e2880⟩
    subst hn2478
    refine c_know (t := 5) e2877 <| c_know (t := 6) e2878 <| c_know (t := 12) e2879 <| c_know (t := 13) e2880 ?_
    clear e2877 e2878 e2879 e2880
    refine c_nil <| q_norm <| c_region ?_
    obtain ⟨hc2883, hM⟩ := chk_ok hM
    refine wl_h hS2876.toHeld (r_add (a := _) (b := _) rfl rfl (ok_lo hc2883) (ok_hi hc2883)) <| wl_h hS2876.toHeld (r_move (v := .int .i64 _) rfl) <| wl_nil <| c_nil <| q_loop ?_
    have hS2884 := hS2876.front (.there .here)
    exact ⟨k_0, Nat.lt_succ_self _, x2300 + 1, y2301, r2435.2, ((l2307 ++ [([] : List Int)]).set r2325.1.toNat (insAt x2412 r2435.1.toNat x2300)), a2302, y2301.length, c2304, a2474, (((l2307 ++ [([] : List Int)]).set r2325.1.toNat (insAt x2412 r2435.1.toNat x2300))).length, c2476, cs2477, hM, hr2305, row_n (hS2884.toHeld.own .here) hrc2479 (by decide), hrc2479, hS2884, rfl, rfl, rfl, rfl⟩
  ·replace hM := bif_f h2330 hM
   refine c_skip ?_
   obtain ⟨x2950, hx2951, h2952, h2953, hM⟩ := getK_ok hM
   obtain ⟨x2960, hx2961, h2962, h2963, hM⟩ := getK_ok hM
   obtain ⟨hc2971, hM⟩ := chk_ok hM
   obtain ⟨r2972, hq2973, hM⟩ := bnd_ok hM
   obtain ⟨hc2984, hM⟩ := chk_ok hM
   obtain ⟨hc2985, hM⟩ := chk_ok hM
   obtain ⟨x2996, hx2997, h2998, h2999, hM⟩ := getK_ok hM
   have hH3017 := (hS2329.weaken (.cons _ (.cons _ (List.sublist_append_right _ _)))).toHeld
   refine c_drawJ (k := 19) (fun f w => ∃ (a3011 : Option Addr) (n3012 : Nat) (c3013 : Nat) (cs3014 : List Value), n3012 = ((l2307.set r2325.1.toNat (insAt x2950 r2972.1.toNat x2300))).length ∧ RCs 1 RSv m cs3014 (l2307.set r2325.1.toNat (insAt x2950 r2972.1.toNat x2300)) ∧ St w m (.box b7 30 [.slice a2302 y2301.length c2304, .int .i64 r2972.2] :: .row (.slice a3011 n3012 c3013) 35 1 cs3014 :: (rowsV 3 cs3014 (l2307.set r2325.1.toNat (insAt x2950 r2972.1.toNat x2300)) ++ L)) ∧ f 5 = .pointer (some ⟨b7, 0, none⟩) ∧ f 6 = .slice a3011 n3012 c3013 ∧ f 12 = .int .i64 n1 ∧ f 13 = .int .i64 x2300) (fun w => Held w m (L)) mixed rfl ?_ ?_
   ·replace hH3017 := hH3017.drew1
    have hS3018 := hS2329.drew1
    refine d_v (i := 0) rfl (by kernel_rfl) rfl (r_move (v := .slice _ _ _) rfl) hH3017 ?_
    refine d_v (i := 1) rfl (by kernel_rfl) rfl (r_move (v := .int .i64 _) rfl) hH3017 ?_
    refine d_v (i := 2) rfl (by kernel_rfl) rfl (r_move (v := .slice _ _ _) rfl) hH3017 ?_
    refine d_v (i := 3) rfl (by kernel_rfl) rfl (r_move (v := .int .i64 _) rfl) hH3017 ?_
    obtain ⟨b3019, rfl⟩ := row_some (hS3018.toHeld.own (.there .here)) hrc2313 (by decide) h2952 h2953
    obtain ⟨es3020, hes3021, hR3022⟩ := row_read hrc2313 hx2951
    obtain ⟨a3023, c3024, rfl⟩ := hR3022
    refine d_v (i := 4) rfl (by kernel_rfl) rfl (r_indexAddr Try.underlying24 ty35 (b := _) (o := _) (n := _) (c := _) (i := r2325.1) rfl rfl h2952 (row_lt (hS3018.toHeld.own (.there .here)) hrc2313 (by decide) h2953)) hH3017 ?_
    refine d_v (i := 6) rfl (by kernel_rfl) rfl (r_move (v := .pointer (some ⟨_, _, none⟩)) rfl) hH3017 ?_
    refine d_v (i := 7) rfl (by kernel_rfl) rfl (r_move (v := .slice _ _ _) rfl) hH3017 ?_
    refine d_v (i := 8) rfl (by kernel_rfl) rfl (r_move (v := .int .i64 _) rfl) hH3017 ?_
    obtain ⟨es3025, hes3026, hR3027⟩ := row_read hrc2313 hx2961
    obtain ⟨a3028, c3029, rfl⟩ := hR3027
    refine d_v (i := 9) rfl (by kernel_rfl) rfl (r_indexAddr Try.underlying24 ty35 (b := _) (o := _) (n := _) (c := _) (i := r2325.1) rfl rfl h2962 (row_lt (hS3018.toHeld.own (.there .here)) hrc2313 (by decide) h2963)) hH3017 ?_
    refine d_v (i := 14) rfl (by kernel_rfl) rfl (r_move (v := .int .i64 _) rfl) hH3017 ?_
    refine d_all (rs := [5, 10, 15]) (by kernel_rfl) (by simp) (fun j hj o ho => ?_)
    simp only [List.mem_cons, List.not_mem_nil, or_false] at hj
    rcases hj with rfl | rfl | rfl
    ·cases ho
     refine wl_h hS3018.toHeld (r_row ty35 (k := 0) (i := r2325.1.toNat) (.there .here) rfl rfl (row_room hrc2313 hx2951) hes3021 rfl (v := .slice _ _ _) rfl) <| wl_nil ?_
     have hH3030 := hS3018.toHeld.mono (Mem.le_refl _) (List.Sublist.subset (.cons _ (.cons _ (List.sublist_append_right _ _))))
     refine ⟨hH3030, ?_⟩
     refine d_all (rs := [10, 15]) (by kernel_rfl) (by simp) (fun j hj o ho => ?_)
     simp only [List.mem_cons, List.not_mem_nil, or_false] at hj
     rcases hj with rfl | rfl
     ·cases ho
      refine wl_h hS3018.toHeld (r_row ty35 (k := 0) (i := r2325.1.toNat) (.there .here) rfl rfl (row_room hrc2313 hx2961) hes3026 rfl (v := .slice _ _ _) rfl) <| wl_nil ?_
      have hH3031 := hS3018.toHeld.mono (Mem.le_refl _) (List.Sublist.subset (.cons _ (.cons _ (List.sublist_append_right _ _))))
      refine ⟨hH3031, ?_⟩
      refine d_v (i := 11) rfl (by kernel_rfl) rfl (r_len Try.underlying35 (a := _) (n := _) (c := _) rfl) hH3031 ?_
      refine d_v (i := 12) rfl (by kernel_rfl) rfl (r_add (a := _) (b := _) rfl rfl (ok_lo hc2971) (ok_hi hc2971)) hH3031 ?_
      refine d_all (rs := [13, 15]) (by kernel_rfl) (by simp) (fun j hj o ho => ?_)
      simp only [List.mem_cons, List.not_mem_nil, or_false] at hj
      rcases hj with rfl | rfl
      ·cases ho
       refine wl_call ent7 (vals := [.pointer (some ⟨_, _, none⟩), .int .i64 _]) rfl (cg7 hS3018 hr2305 hq2973) ?_
       rintro _ w3033 ⟨rfl, hS3034⟩
       refine wl_nil ?_
       have hH3035 := hS3034.toHeld.mono (Mem.le_refl _) (List.Sublist.subset (.cons _ (.cons _ (List.sublist_append_right _ _))))
       refine ⟨hH3035, ?_⟩
       refine d_all (rs := [15]) (by kernel_rfl) (by simp) (fun j hj o ho => ?_)
       obtain rfl : j = 15 := by simpa using hj
       cases ho
       refine wl_buildSlice Try.underlying35 ty3 rfl (by decide) (by decide) hS3034 (ps := [(0, [.int .i64 _])]) rfl rfl (cs := [.int .i64 _]) rfl rfl (by decide) ?_
       intro b3037 w3038 hS3039
       have hrc3040 : RCs 1 RInt m [.int .i64 x2300] ([x2300] : List Int) := (RCs.cons (d := [.int .i64 x2300]) rfl rfl RCs.nil)
       refine wl_nil ?_
       have hH3041 := hS3039.toHeld.mono (Mem.le_refl _) (List.Sublist.subset (.cons _ (.cons _ (.cons _ (List.sublist_append_right _ _)))))
       refine ⟨hH3041, ?_⟩
       refine d_all (rs := [16]) (by kernel_rfl) (by simp) (fun j hj o ho => ?_)
       obtain rfl : j = 16 := by simpa using hj
       cases ho
       obtain ⟨R3042, hS3044, back3043⟩ := tab_take (A := [.row (.slice (some ⟨b3037, 0, none⟩) 1 1) 3 1 [.int .i64 x2300], .box b7 30 [.slice a2302 y2301.length c2304, .int .i64 r2972.2], .row (.slice (some ⟨b3019, 0, none⟩) l2307.length c2310) 35 1 cs2311]) (L := L) hS3039 (take_get hes3021) hx2951
       simp only [List.cons_append, List.nil_append] at hS3044
       refine wl_call ent21 (vals := [.slice _ _ _, .int .i64 _, .slice _ _ _]) rfl (insert_rowI Try.lInsert hS3044 hc2984 hc2985) ?_
       rintro _ w3045 ⟨a3046, c3047, rfl, hS3048⟩
       have hS3050 := hS3048.weaken (.cons_cons _ (.cons _ (.cons_cons _ (.cons_cons _ (.refl _)))))
       refine wl_nil ?_
       have hH3051 := hS3050.toHeld.mono (Mem.le_refl _) (List.Sublist.subset (.cons _ (.cons _ (.cons _ (List.sublist_append_right _ _)))))
       refine ⟨hH3051, ?_⟩
       obtain ⟨es3052, hes3053, hR3054⟩ := row_read hrc2313 hx2997
       obtain ⟨a3055, c3056, rfl⟩ := hR3054
       refine d_v (i := 17) rfl (by kernel_rfl) rfl (r_indexAddr Try.underlying24 ty35 (b := _) (o := _) (n := _) (c := _) (i := r2325.1) rfl rfl h2998 (row_lt (hS3050.toHeld.own (.there (.there .here))) hrc2313 (by decide) h2999)) hH3051 ?_
       refine d_all (rs := [18]) (by kernel_rfl) (by simp) (fun j hj o ho => ?_)
       obtain rfl : j = 18 := by simpa using hj
       cases ho
       refine wl_store_row ty35 hS3050 rfl (v := .slice _ _ _) rfl (vs := [.slice _ _ _]) rfl rfl rfl (.there (.there .here)) (Nat.le_trans (by simp only [Nat.zero_add]; omega) (row_room hrc2313 hx2997)) ?_
       intro w3057 hS3058
       rw [spl_one (tab_lt hrc2313 hx2997)] at hS3058
       have hrc3059 := RCs.seti hrc2313 hx2997 (vs := [.slice a3046 ((insAt x2950 r2972.1.toNat x2300).length) c3047]) (y := (insAt x2950 r2972.1.toNat x2300)) rfl ⟨_, _, rfl⟩
       rw [spl_one (tab_lt hrc2313 hx2997)] at hrc3059
       have hS3061 := back3043 [.box b7 30 [.slice a2302 y2301.length c2304, .int .i64 r2972.2], .row (.slice (some ⟨b3019, 0, none⟩) l2307.length c2310) 35 1 (cs2311.set r2325.1.toNat (.slice a3046 ((insAt x2950 r2972.1.toNat x2300).length) c3047))] _ _ _ hS3058
       simp only [List.cons_append, List.nil_append] at hS3061
       generalize cs2311.set r2325.1.toNat (.slice a3046 ((insAt x2950 r2972.1.toNat x2300).length) c3047) = cs3060 at hS3061 hrc3059
       refine wl_nil ?_
       have hH3062 := hS3061.toHeld.mono (Mem.le_refl _) (List.Sublist.subset (.cons _ (.cons _ (List.sublist_append_right _ _))))
       refine ⟨hH3062, ?_⟩
       refine d_end (by kernel_rfl) ?_
       exact ⟨_, _, _, _, row_n (hS3061.toHeld.own (.there .here)) hrc3059 (by decide), hrc3059, hS3061, rfl, rfl, rfl, rfl⟩
      ·cases ho
       refine wl_buildSlice Try.underlying35 ty3 rfl (by decide) (by decide) hS3018 (ps := [(0, [.int .i64 _])]) rfl rfl (cs := [.int .i64 _]) rfl rfl (by decide) ?_
       intro b3064 w3065 hS3066
       have hrc3067 : RCs 1 RInt m [.int .i64 x2300] ([x2300] : List Int) := (RCs.cons (d := [.int .i64 x2300]) rfl rfl RCs.nil)
       refine wl_nil ?_
       have hH3068 := hS3066.toHeld.mono (Mem.le_refl _) (List.Sublist.subset (.cons _ (.cons _ (.cons _ (List.sublist_append_right _ _)))))
       refine ⟨hH3068, ?_⟩
       refine d_all (rs := [13]) (by kernel_rfl) (by simp) (fun j hj o ho => ?_)
       obtain rfl : j = 13 := by simpa using hj
       cases ho
       have hS3069 := hS3066.front (.there .here)
       refine wl_call ent7 (vals := [.pointer (some ⟨_, _, none⟩), .int .i64 _]) rfl (cg7 hS3069 hr2305 hq2973) ?_
       rintro _ w3071 ⟨rfl, hS3072⟩
       refine wl_nil ?_
       have hH3073 := hS3072.toHeld.mono (Mem.le_refl _) (List.Sublist.subset (.cons _ (.cons _ (.cons _ (List.sublist_append_right _ _)))))
       refine ⟨hH3073, ?_⟩
       refine d_all (rs := [16]) (by kernel_rfl) (by simp) (fun j hj o ho => ?_)
       obtain rfl : j = 16 := by simpa using hj
       cases ho
       have hS3074 := hS3072.front (.there .here)
       obtain ⟨R3075, hS3077, back3076⟩ := tab_take (A := [.row (.slice (some ⟨b3064, 0, none⟩) 1 1) 3 1 [.int .i64 x2300], .box b7 30 [.slice a2302 y2301.length c2304, .int .i64 r2972.2], .row (.slice (some ⟨b3019, 0, none⟩) l2307.length c2310) 35 1 cs2311]) (L := L) hS3074 (take_get hes3021) hx2951
       simp only [List.cons_append, List.nil_append] at hS3077
       refine wl_call ent21 (vals := [.slice _ _ _, .int .i64 _, .slice _ _ _]) rfl (insert_rowI Try.lInsert hS3077 hc2984 hc2985) ?_
       rintro _ w3078 ⟨a3079, c3080, rfl, hS3081⟩
       have hS3083 := hS3081.weaken (.cons_cons _ (.cons _ (.cons_cons _ (.cons_cons _ (.refl _)))))
       refine wl_nil ?_
       have hH3084 := hS3083.toHeld.mono (Mem.le_refl _) (List.Sublist.subset (.cons _ (.cons _ (.cons _ (List.sublist_append_right _ _)))))
       refine ⟨hH3084, ?_⟩
       obtain ⟨es3085, hes3086, hR3087⟩ := row_read hrc2313 hx2997
       obtain ⟨a3088, c3089, rfl⟩ := hR3087
       refine d_v (i := 17) rfl (by kernel_rfl) rfl (r_indexAddr Try.underlying24 ty35 (b := _) (o := _) (n := _) (c := _) (i := r2325.1) rfl rfl h2998 (row_lt (hS3083.toHeld.own (.there (.there .here))) hrc2313 (by decide) h2999)) hH3084 ?_
       refine d_all (rs := [18]) (by kernel_rfl) (by simp) (fun j hj o ho => ?_)
       obtain rfl : j = 18 := by simpa using hj
       cases ho
       refine wl_store_row ty35 hS3083 rfl (v := .slice _ _ _) rfl (vs := [.slice _ _ _]) rfl rfl rfl (.there (.there .here)) (Nat.le_trans (by simp only [Nat.zero_add]; omega) (row_room hrc2313 hx2997)) ?_
       intro w3090 hS3091
       rw [spl_one (tab_lt hrc2313 hx2997)] at hS3091
       have hrc3092 := RCs.seti hrc2313 hx2997 (vs := [.slice a3079 ((insAt x2950 r2972.1.toNat x2300).length) c3080]) (y := (insAt x2950 r2972.1.toNat x2300)) rfl ⟨_, _, rfl⟩
       rw [spl_one (tab_lt hrc2313 hx2997)] at hrc3092
       have hS3094 := back3076 [.box b7 30 [.slice a2302 y2301.length c2304, .int .i64 r2972.2], .row (.slice (some ⟨b3019, 0, none⟩) l2307.length c2310) 35 1 (cs2311.set r2325.1.toNat (.slice a3079 ((insAt x2950 r2972.1.toNat x2300).length) c3080))] _ _ _ hS3091
       simp only [List.cons_append, List.nil_append] at hS3094
       generalize cs2311.set r2325.1.toNat (.slice a3079 ((insAt x2950 r2972.1.toNat x2300).length) c3080) = cs3093 at hS3094 hrc3092
       refine wl_nil ?_
       have hH3095 := hS3094.toHeld.mono (Mem.le_refl _) (List.Sublist.subset (.cons _ (.cons _ (List.sublist_append_right _ _))))
       refine ⟨hH3095, ?_⟩
       refine d_end (by kernel_rfl) ?_
       exact ⟨_, _, _, _, row_n (hS3094.toHeld.own (.there .here)) hrc3092 (by decide), hrc3092, hS3094, rfl, rfl, rfl, rfl⟩
     ·cases ho
      refine wl_buildSlice Try.underlying35 ty3 rfl (by decide) (by decide) hS3018 (ps := [(0, [.int .i64 _])]) rfl rfl (cs := [.int .i64 _]) rfl rfl (by decide) ?_
      intro b3097 w3098 hS3099
      have hrc3100 : RCs 1 RInt m [.int .i64 x2300] ([x2300] : List Int) := (RCs.cons (d := [.int .i64 x2300]) rfl rfl RCs.nil)
      refine wl_nil ?_
      have hH3101 := hS3099.toHeld.mono (Mem.le_refl _) (List.Sublist.subset (.cons _ (.cons _ (.cons _ (List.sublist_append_right _ _)))))
      refine ⟨hH3101, ?_⟩
      refine d_all (rs := [10]) (by kernel_rfl) (by simp) (fun j hj o ho => ?_)
      obtain rfl : j = 10 := by simpa using hj
      cases ho
      refine wl_h hS3099.toHeld (r_row ty35 (k := 0) (i := r2325.1.toNat) (.there (.there .here)) rfl rfl (row_room hrc2313 hx2961) hes3026 rfl (v := .slice _ _ _) rfl) <| wl_nil ?_
      have hH3102 := hS3099.toHeld.mono (Mem.le_refl _) (List.Sublist.subset (.cons _ (.cons _ (.cons _ (List.sublist_append_right _ _)))))
      refine ⟨hH3102, ?_⟩
      refine d_v (i := 11) rfl (by kernel_rfl) rfl (r_len Try.underlying35 (a := _) (n := _) (c := _) rfl) hH3102 ?_
      refine d_v (i := 12) rfl (by kernel_rfl) rfl (r_add (a := _) (b := _) rfl rfl (ok_lo hc2971) (ok_hi hc2971)) hH3102 ?_
      refine d_all (rs := [13]) (by kernel_rfl) (by simp) (fun j hj o ho => ?_)
      obtain rfl : j = 13 := by simpa using hj
      cases ho
      have hS3103 := hS3099.front (.there .here)
      refine wl_call ent7 (vals := [.pointer (some ⟨_, _, none⟩), .int .i64 _]) rfl (cg7 hS3103 hr2305 hq2973) ?_
      rintro _ w3105 ⟨rfl, hS3106⟩
      refine wl_nil ?_
      have hH3107 := hS3106.toHeld.mono (Mem.le_refl _) (List.Sublist.subset (.cons _ (.cons _ (.cons _ (List.sublist_append_right _ _)))))
      refine ⟨hH3107, ?_⟩
      refine d_all (rs := [16]) (by kernel_rfl) (by simp) (fun j hj o ho => ?_)
      obtain rfl : j = 16 := by simpa using hj
      cases ho
      have hS3108 := hS3106.front (.there .here)
      obtain ⟨R3109, hS3111, back3110⟩ := tab_take (A := [.row (.slice (some ⟨b3097, 0, none⟩) 1 1) 3 1 [.int .i64 x2300], .box b7 30 [.slice a2302 y2301.length c2304, .int .i64 r2972.2], .row (.slice (some ⟨b3019, 0, none⟩) l2307.length c2310) 35 1 cs2311]) (L := L) hS3108 (take_get hes3021) hx2951
      simp only [List.cons_append, List.nil_append] at hS3111
      refine wl_call ent21 (vals := [.slice _ _ _, .int .i64 _, .slice _ _ _]) rfl (insert_rowI Try.lInsert hS3111 hc2984 hc2985) ?_
      rintro _ w3112 ⟨a3113, c3114, rfl, hS3115⟩
      have hS3117 := hS3115.weaken (.cons_cons _ (.cons _ (.cons_cons _ (.cons_cons _ (.refl _)))))
      refine wl_nil ?_
      have hH3118 := hS3117.toHeld.mono (Mem.le_refl _) (List.Sublist.subset (.cons _ (.cons _ (.cons _ (List.sublist_append_right _ _)))))
      refine ⟨hH3118, ?_⟩
      obtain ⟨es3119, hes3120, hR3121⟩ := row_read hrc2313 hx2997
      obtain ⟨a3122, c3123, rfl⟩ := hR3121
      refine d_v (i := 17) rfl (by kernel_rfl) rfl (r_indexAddr Try.underlying24 ty35 (b := _) (o := _) (n := _) (c := _) (i := r2325.1) rfl rfl h2998 (row_lt (hS3117.toHeld.own (.there (.there .here))) hrc2313 (by decide) h2999)) hH3118 ?_
      refine d_all (rs := [18]) (by kernel_rfl) (by simp) (fun j hj o ho => ?_)
      obtain rfl : j = 18 := by simpa using hj
      cases ho
      refine wl_store_row ty35 hS3117 rfl (v := .slice _ _ _) rfl (vs := [.slice _ _ _]) rfl rfl rfl (.there (.there .here)) (Nat.le_trans (by simp only [Nat.zero_add]; omega) (row_room hrc2313 hx2997)) ?_
      intro w3124 hS3125
      rw [spl_one (tab_lt hrc2313 hx2997)] at hS3125
      have hrc3126 := RCs.seti hrc2313 hx2997 (vs := [.slice a3113 ((insAt x2950 r2972.1.toNat x2300).length) c3114]) (y := (insAt x2950 r2972.1.toNat x2300)) rfl ⟨_, _, rfl⟩
      rw [spl_one (tab_lt hrc2313 hx2997)] at hrc3126
      have hS3128 := back3110 [.box b7 30 [.slice a2302 y2301.length c2304, .int .i64 r2972.2], .row (.slice (some ⟨b3019, 0, none⟩) l2307.length c2310) 35 1 (cs2311.set r2325.1.toNat (.slice a3113 ((insAt x2950 r2972.1.toNat x2300).length) c3114))] _ _ _ hS3125
      simp only [List.cons_append, List.nil_append] at hS3128
      generalize cs2311.set r2325.1.toNat (.slice a3113 ((insAt x2950 r2972.1.toNat x2300).length) c3114) = cs3127 at hS3128 hrc3126
      refine wl_nil ?_
      have hH3129 := hS3128.toHeld.mono (Mem.le_refl _) (List.Sublist.subset (.cons _ (.cons _ (List.sublist_append_right _ _))))
      refine ⟨hH3129, ?_⟩
      refine d_end (by kernel_rfl) ?_
      exact ⟨_, _, _, _, row_n (hS3128.toHeld.own (.there .here)) hrc3126 (by decide), hrc3126, hS3128, rfl, rfl, rfl, rfl⟩
    ·cases ho
     refine wl_h hS3018.toHeld (r_row ty35 (k := 0) (i := r2325.1.toNat) (.there .here) rfl rfl (row_room hrc2313 hx2961) hes3026 rfl (v := .slice _ _ _) rfl) <| wl_nil ?_
     have hH3130 := hS3018.toHeld.mono (Mem.le_refl _) (List.Sublist.subset (.cons _ (.cons _ (List.sublist_append_right _ _))))
     refine ⟨hH3130, ?_⟩
     refine d_v (i := 11) rfl (by kernel_rfl) rfl (r_len Try.underlying35 (a := _) (n := _) (c := _) rfl) hH3130 ?_
     refine d_v (i := 12) rfl (by kernel_rfl) rfl (r_add (a := _) (b := _) rfl rfl (ok_lo hc2971) (ok_hi hc2971)) hH3130 ?_
     refine d_all (rs := [5, 13, 15]) (by kernel_rfl) (by simp) (fun j hj o ho => ?_)
     simp only [List.mem_cons, List.not_mem_nil, or_false] at hj
     rcases hj with rfl | rfl | rfl
     ·cases ho
      refine wl_h hS3018.toHeld (r_row ty35 (k := 0) (i := r2325.1.toNat) (.there .here) rfl rfl (row_room hrc2313 hx2951) hes3021 rfl (v := .slice _ _ _) rfl) <| wl_nil ?_
      have hH3131 := hS3018.toHeld.mono (Mem.le_refl _) (List.Sublist.subset (.cons _ (.cons _ (List.sublist_append_right _ _))))
      refine ⟨hH3131, ?_⟩
      refine d_all (rs := [13, 15]) (by kernel_rfl) (by simp) (fun j hj o ho => ?_)
      simp only [List.mem_cons, List.not_mem_nil, or_false] at hj
      rcases hj with rfl | rfl
      ·cases ho
       refine wl_call ent7 (vals := [.pointer (some ⟨_, _, none⟩), .int .i64 _]) rfl (cg7 hS3018 hr2305 hq2973) ?_
       rintro _ w3133 ⟨rfl, hS3134⟩
       refine wl_nil ?_
       have hH3135 := hS3134.toHeld.mono (Mem.le_refl _) (List.Sublist.subset (.cons _ (.cons _ (List.sublist_append_right _ _))))
       refine ⟨hH3135, ?_⟩
       refine d_all (rs := [15]) (by kernel_rfl) (by simp) (fun j hj o ho => ?_)
       obtain rfl : j = 15 := by simpa using hj
       cases ho
       refine wl_buildSlice Try.underlying35 ty3 rfl (by decide) (by decide) hS3134 (ps := [(0, [.int .i64 _])]) rfl rfl (cs := [.int .i64 _]) rfl rfl (by decide) ?_
       intro b3137 w3138 hS3139
       have hrc3140 : RCs 1 RInt m [.int .i64 x2300] ([x2300] : List Int) := (RCs.cons (d := [.int .i64 x2300]) rfl rfl RCs.nil)
       refine wl_nil ?_
       have hH3141 := hS3139.toHeld.mono (Mem.le_refl _) (List.Sublist.subset (.cons _ (.cons _ (.cons _ (List.sublist_append_right _ _)))))
       refine ⟨hH3141, ?_⟩
       refine d_all (rs := [16]) (by kernel_rfl) (by simp) (fun j hj o ho => ?_)
       obtain rfl : j = 16 := by simpa using hj
       cases ho
       obtain ⟨R3142, hS3144, back3143⟩ := tab_take (A := [.row (.slice (some ⟨b3137, 0, none⟩) 1 1) 3 1 [.int .i64 x2300], .box b7 30 [.slice a2302 y2301.length c2304, .int .i64 r2972.2], .row (.slice (some ⟨b3019, 0, none⟩) l2307.length c2310) 35 1 cs2311]) (L := L) hS3139 (take_get hes3021) hx2951
       simp only [List.cons_append, List.nil_append] at hS3144
       refine wl_call ent21 (vals := [.slice _ _ _, .int .i64 _, .slice _ _ _]) rfl (insert_rowI Try.lInsert hS3144 hc2984 hc2985) ?_
       rintro _ w3145 ⟨a3146, c3147, rfl, hS3148⟩
       have hS3150 := hS3148.weaken (.cons_cons _ (.cons _ (.cons_cons _ (.cons_cons _ (.refl _)))))
       refine wl_nil ?_
       have hH3151 := hS3150.toHeld.mono (Mem.le_refl _) (List.Sublist.subset (.cons _ (.cons _ (.cons _ (List.sublist_append_right _ _)))))
       refine ⟨hH3151, ?_⟩
       obtain ⟨es3152, hes3153, hR3154⟩ := row_read hrc2313 hx2997
       obtain ⟨a3155, c3156, rfl⟩ := hR3154
       refine d_v (i := 17) rfl (by kernel_rfl) rfl (r_indexAddr Try.underlying24 ty35 (b := _) (o := _) (n := _) (c := _) (i := r2325.1) rfl rfl h2998 (row_lt (hS3150.toHeld.own (.there (.there .here))) hrc2313 (by decide) h2999)) hH3151 ?_
       refine d_all (rs := [18]) (by kernel_rfl) (by simp) (fun j hj o ho => ?_)
       obtain rfl : j = 18 := by simpa using hj
       cases ho
       refine wl_store_row ty35 hS3150 rfl (v := .slice _ _ _) rfl (vs := [.slice _ _ _]) rfl rfl rfl (.there (.there .here)) (Nat.le_trans (by simp only [Nat.zero_add]; omega) (row_room hrc2313 hx2997)) ?_
       intro w3157 hS3158
       rw [spl_one (tab_lt hrc2313 hx2997)] at hS3158
       have hrc3159 := RCs.seti hrc2313 hx2997 (vs := [.slice a3146 ((insAt x2950 r2972.1.toNat x2300).length) c3147]) (y := (insAt x2950 r2972.1.toNat x2300)) rfl ⟨_, _, rfl⟩
       rw [spl_one (tab_lt hrc2313 hx2997)] at hrc3159
       have hS3161 := back3143 [.box b7 30 [.slice a2302 y2301.length c2304, .int .i64 r2972.2], .row (.slice (some ⟨b3019, 0, none⟩) l2307.length c2310) 35 1 (cs2311.set r2325.1.toNat (.slice a3146 ((insAt x2950 r2972.1.toNat x2300).length) c3147))] _ _ _ hS3158
       simp only [List.cons_append, List.nil_append] at hS3161
       generalize cs2311.set r2325.1.toNat (.slice a3146 ((insAt x2950 r2972.1.toNat x2300).length) c3147) = cs3160 at hS3161 hrc3159
       refine wl_nil ?_
       have hH3162 := hS3161.toHeld.mono (Mem.le_refl _) (List.Sublist.subset (.cons _ (.cons _ (List.sublist_append_right _ _))))
       refine ⟨hH3162, ?_⟩
       refine d_end (by kernel_rfl) ?_
       exact ⟨_, _, _, _, row_n (hS3161.toHeld.own (.there .here)) hrc3159 (by decide), hrc3159, hS3161, rfl, rfl, rfl, rfl⟩
      ·cases ho
       refine wl_buildSlice Try.underlying35 ty3 rfl (by decide) (by decide) hS3018 (ps := [(0, [.int .i64 _])]) rfl rfl (cs := [.int .i64 _]) rfl rfl (by decide) ?_
       intro b3164 w3165 hS3166
       have hrc3167 : RCs 1 RInt m [.int .i64 x2300] ([x2300] : List Int) := (RCs.cons (d := [.int .i64 x2300]) rfl rfl RCs.nil)
       refine wl_nil ?_
       have hH3168 := hS3166.toHeld.mono (Mem.le_refl _) (List.Sublist.subset (.cons _ (.cons _ (.cons _ (List.sublist_append_right _ _)))))
       refine ⟨hH3168, ?_⟩
       refine d_all (rs := [13]) (by kernel_rfl) (by simp) (fun j hj o ho => ?_)
       obtain rfl : j = 13 := by simpa using hj
       cases ho
       have hS3169 := hS3166.front (.there .here)
       refine wl_call ent7 (vals := [.pointer (some ⟨_, _, none⟩), .int .i64 _]) rfl (cg7 hS3169 hr2305 hq2973) ?_
       rintro _ w3171 ⟨rfl, hS3172⟩
       refine wl_nil ?_
       have hH3173 := hS3172.toHeld.mono (Mem.le_refl _) (List.Sublist.subset (.cons _ (.cons _ (.cons _ (List.sublist_append_right _ _)))))
       refine ⟨hH3173, ?_⟩
       refine d_all (rs := [16]) (by kernel_rfl) (by simp) (fun j hj o ho => ?_)
       obtain rfl : j = 16 := by simpa using hj
       cases ho
       have hS3174 := hS3172.front (.there .here)
       obtain ⟨R3175, hS3177, back3176⟩ := tab_take (A := [.row (.slice (some ⟨b3164, 0, none⟩) 1 1) 3 1 [.int .i64 x2300], .box b7 30 [.slice a2302 y2301.length c2304, .int .i64 r2972.2], .row (.slice (some ⟨b3019, 0, none⟩) l2307.length c2310) 35 1 cs2311]) (L := L) hS3174 (take_get hes3021) hx2951
       simp only [List.cons_append, List.nil_append] at hS3177
       refine wl_call ent21 (vals := [.slice _ _ _, .int .i64 _, .slice _ _ _]) rfl (insert_rowI Try.lInsert hS3177 hc2984 hc2985) ?_
       rintro _ w3178 ⟨a3179, c3180, rfl, hS3181⟩
       have hS3183 := hS3181.weaken (.cons_cons _ (.cons _ (.cons_cons _ (.cons_cons _ (.refl _)))))
       refine wl_nil ?_
       have hH3184 := hS3183.toHeld.mono (Mem.le_refl _) (List.Sublist.subset (.cons _ (.cons _ (.cons _ (List.sublist_append_right _ _)))))
       refine ⟨hH3184, ?_⟩
       obtain ⟨es3185, hes3186, hR3187⟩ := row_read hrc2313 hx2997
       obtain ⟨a3188, c3189, rfl⟩ := hR3187
       refine d_v (i := 17) rfl (by kernel_rfl) rfl (r_indexAddr Try.underlying24 ty35 (b := _) (o := _) (n := _) (c := _) (i := r2325.1) rfl rfl h2998 (row_lt (hS3183.toHeld.own (.there (.there .here))) hrc2313 (by decide) h2999)) hH3184 ?_
       refine d_all (rs := [18]) (by kernel_rfl) (by simp) (fun j hj o ho => ?_)
       obtain rfl : j = 18 := by simpa using hj
       cases ho
       refine wl_store_row ty35 hS3183 rfl (v := .slice _ _ _) rfl (vs := [.slice _ _ _]) rfl rfl rfl (.there (.there .here)) (Nat.le_trans (by simp only [Nat.zero_add]; omega) (row_room hrc2313 hx2997)) ?_
       intro w3190 hS3191
       rw [spl_one (tab_lt hrc2313 hx2997)] at hS3191
       have hrc3192 := RCs.seti hrc2313 hx2997 (vs := [.slice a3179 ((insAt x2950 r2972.1.toNat x2300).length) c3180]) (y := (insAt x2950 r2972.1.toNat x2300)) rfl ⟨_, _, rfl⟩
       rw [spl_one (tab_lt hrc2313 hx2997)] at hrc3192
       have hS3194 := back3176 [.box b7 30 [.slice a2302 y2301.length c2304, .int .i64 r2972.2], .row (.slice (some ⟨b3019, 0, none⟩) l2307.length c2310) 35 1 (cs2311.set r2325.1.toNat (.slice a3179 ((insAt x2950 r2972.1.toNat x2300).length) c3180))] _ _ _ hS3191
       simp only [List.cons_append, List.nil_append] at hS3194
       generalize cs2311.set r2325.1.toNat (.slice a3179 ((insAt x2950 r2972.1.toNat x2300).length) c3180) = cs3193 at hS3194 hrc3192
       refine wl_nil ?_
       have hH3195 := hS3194.toHeld.mono (Mem.le_refl _) (List.Sublist.subset (.cons _ (.cons _ (List.sublist_append_right _ _))))
       refine ⟨hH3195, ?_⟩
       refine d_end (by kernel_rfl) ?_
       exact ⟨_, _, _, _, row_n (hS3194.toHeld.own (.there .here)) hrc3192 (by decide), hrc3192, hS3194, rfl, rfl, rfl, rfl⟩
     ·cases ho
      refine wl_call ent7 (vals := [.pointer (some ⟨_, _, none⟩), .int .i64 _]) rfl (cg7 hS3018 hr2305 hq2973) ?_
      rintro _ w3197 ⟨rfl, hS3198⟩
      refine wl_nil ?_
      have hH3199 := hS3198.toHeld.mono (Mem.le_refl _) (List.Sublist.subset (.cons _ (.cons _ (List.sublist_append_right _ _))))
      refine ⟨hH3199, ?_⟩
      refine d_all (rs := [5, 15]) (by kernel_rfl) (by simp) (fun j hj o ho => ?_)
      simp only [List.mem_cons, List.not_mem_nil, or_false] at hj
      rcases hj with rfl | rfl
      ·cases ho
       refine wl_h hS3198.toHeld (r_row ty35 (k := 0) (i := r2325.1.toNat) (.there .here) rfl rfl (row_room hrc2313 hx2951) hes3021 rfl (v := .slice _ _ _) rfl) <| wl_nil ?_
       have hH3200 := hS3198.toHeld.mono (Mem.le_refl _) (List.Sublist.subset (.cons _ (.cons _ (List.sublist_append_right _ _))))
       refine ⟨hH3200, ?_⟩
       refine d_all (rs := [15]) (by kernel_rfl) (by simp) (fun j hj o ho => ?_)
       obtain rfl : j = 15 := by simpa using hj
       cases ho
       refine wl_buildSlice Try.underlying35 ty3 rfl (by decide) (by decide) hS3198 (ps := [(0, [.int .i64 _])]) rfl rfl (cs := [.int .i64 _]) rfl rfl (by decide) ?_
       intro b3202 w3203 hS3204
       have hrc3205 : RCs 1 RInt m [.int .i64 x2300] ([x2300] : List Int) := (RCs.cons (d := [.int .i64 x2300]) rfl rfl RCs.nil)
       refine wl_nil ?_
       have hH3206 := hS3204.toHeld.mono (Mem.le_refl _) (List.Sublist.subset (.cons _ (.cons _ (.cons _ (List.sublist_append_right _ _)))))
       refine ⟨hH3206, ?_⟩
       refine d_all (rs := [16]) (by kernel_rfl) (by simp) (fun j hj o ho => ?_)
       obtain rfl : j = 16 := by simpa using hj
       cases ho
       obtain ⟨R3207, hS3209, back3208⟩ := tab_take (A := [.row (.slice (some ⟨b3202, 0, none⟩) 1 1) 3 1 [.int .i64 x2300], .box b7 30 [.slice a2302 y2301.length c2304, .int .i64 r2972.2], .row (.slice (some ⟨b3019, 0, none⟩) l2307.length c2310) 35 1 cs2311]) (L := L) hS3204 (take_get hes3021) hx2951
       simp only [List.cons_append, List.nil_append] at hS3209
       refine wl_call ent21 (vals := [.slice _ _ _, .int .i64 _, .slice _ _ _]) rfl (insert_rowI Try.lInsert hS3209 hc2984 hc2985) ?_
       rintro _ w3210 ⟨a3211, c3212, rfl, hS3213⟩
       have hS3215 := hS3213.weaken (.cons_cons _ (.cons _ (.cons_cons _ (.cons_cons _ (.refl _)))))
       refine wl_nil ?_
       have hH3216 := hS3215.toHeld.mono (Mem.le_refl _) (List.Sublist.subset (.cons _ (.cons _ (.cons _ (List.sublist_append_right _ _)))))
       refine ⟨hH3216, ?_⟩
       obtain ⟨es3217, hes3218, hR3219⟩ := row_read hrc2313 hx2997
       obtain ⟨a3220, c3221, rfl⟩ := hR3219
       refine d_v (i := 17) rfl (by kernel_rfl) rfl (r_indexAddr Try.underlying24 ty35 (b := _) (o := _) (n := _) (c := _) (i := r2325.1) rfl rfl h2998 (row_lt (hS3215.toHeld.own (.there (.there .here))) hrc2313 (by decide) h2999)) hH3216 ?_
       refine d_all (rs := [18]) (by kernel_rfl) (by simp) (fun j hj o ho => ?_)
       obtain rfl : j = 18 := by simpa using hj
       cases ho
       refine wl_store_row ty35 hS3215 rfl (v := .slice _ _ _) rfl (vs := [.slice _ _ _]) rfl rfl rfl (.there (.there .here)) (Nat.le_trans (by simp only [Nat.zero_add]; omega) (row_room hrc2313 hx2997)) ?_
       intro w3222 hS3223
       rw [spl_one (tab_lt hrc2313 hx2997)] at hS3223
       have hrc3224 := RCs.seti hrc2313 hx2997 (vs := [.slice a3211 ((insAt x2950 r2972.1.toNat x2300).length) c3212]) (y := (insAt x2950 r2972.1.toNat x2300)) rfl ⟨_, _, rfl⟩
       rw [spl_one (tab_lt hrc2313 hx2997)] at hrc3224
       have hS3226 := back3208 [.box b7 30 [.slice a2302 y2301.length c2304, .int .i64 r2972.2], .row (.slice (some ⟨b3019, 0, none⟩) l2307.length c2310) 35 1 (cs2311.set r2325.1.toNat (.slice a3211 ((insAt x2950 r2972.1.toNat x2300).length) c3212))] _ _ _ hS3223
       simp only [List.cons_append, List.nil_append] at hS3226
       generalize cs2311.set r2325.1.toNat (.slice a3211 ((insAt x2950 r2972.1.toNat x2300).length) c3212) = cs3225 at hS3226 hrc3224
       refine wl_nil ?_
       have hH3227 := hS3226.toHeld.mono (Mem.le_refl _) (List.Sublist.subset (.cons _ (.cons _ (List.sublist_append_right _ _))))
       refine ⟨hH3227, ?_⟩
       refine d_end (by kernel_rfl) ?_
       exact ⟨_, _, _, _, row_n (hS3226.toHeld.own (.there .here)) hrc3224 (by decide), hrc3224, hS3226, rfl, rfl, rfl, rfl⟩
      ·cases ho
       refine wl_buildSlice Try.underlying35 ty3 rfl (by decide) (by decide) hS3198 (ps := [(0, [.int .i64 _])]) rfl rfl (cs := [.int .i64 _]) rfl rfl (by decide) ?_
       intro b3229 w3230 hS3231
       have hrc3232 : RCs 1 RInt m [.int .i64 x2300] ([x2300] : List Int) := (RCs.cons (d := [.int .i64 x2300]) rfl rfl RCs.nil)
       refine wl_nil ?_
       have hH3233 := hS3231.toHeld.mono (Mem.le_refl _) (List.Sublist.subset (.cons _ (.cons _ (.cons _ (List.sublist_append_right _ _)))))
       refine ⟨hH3233, ?_⟩
       refine d_all (rs := [5]) (by kernel_rfl) (by simp) (fun j hj o ho => ?_)
       obtain rfl : j = 5 := by simpa using hj
       cases ho
       refine wl_h hS3231.toHeld (r_row ty35 (k := 0) (i := r2325.1.toNat) (.there (.there .here)) rfl rfl (row_room hrc2313 hx2951) hes3021 rfl (v := .slice _ _ _) rfl) <| wl_nil ?_
       have hH3234 := hS3231.toHeld.mono (Mem.le_refl _) (List.Sublist.subset (.cons _ (.cons _ (.cons _ (List.sublist_append_right _ _)))))
       refine ⟨hH3234, ?_⟩
       refine d_all (rs := [16]) (by kernel_rfl) (by simp) (fun j hj o ho => ?_)
       obtain rfl : j = 16 := by simpa using hj
       cases ho
       obtain ⟨R3235, hS3237, back3236⟩ := tab_take (A := [.row (.slice (some ⟨b3229, 0, none⟩) 1 1) 3 1 [.int .i64 x2300], .box b7 30 [.slice a2302 y2301.length c2304, .int .i64 r2972.2], .row (.slice (some ⟨b3019, 0, none⟩) l2307.length c2310) 35 1 cs2311]) (L := L) hS3231 (take_get hes3021) hx2951
       simp only [List.cons_append, List.nil_append] at hS3237
       refine wl_call ent21 (vals := [.slice _ _ _, .int .i64 _, .slice _ _ _]) rfl (insert_rowI Try.lInsert hS3237 hc2984 hc2985) ?_
       rintro _ w3238 ⟨a3239, c3240, rfl, hS3241⟩
       have hS3243 := hS3241.weaken (.cons_cons _ (.cons _ (.cons_cons _ (.cons_cons _ (.refl _)))))
       refine wl_nil ?_
       have hH3244 := hS3243.toHeld.mono (Mem.le_refl _) (List.Sublist.subset (.cons _ (.cons _ (.cons _ (List.sublist_append_right _ _)))))
       refine ⟨hH3244, ?_⟩
       obtain ⟨es3245, hes3246, hR3247⟩ := row_read hrc2313 hx2997
       obtain ⟨a3248, c3249, rfl⟩ := hR3247
       refine d_v (i := 17) rfl (by kernel_rfl) rfl (r_indexAddr Try.underlying24 ty35 (b := _) (o := _) (n := _) (c := _) (i := r2325.1) rfl rfl h2998 (row_lt (hS3243.toHeld.own (.there (.there .here))) hrc2313 (by decide) h2999)) hH3244 ?_
       refine d_all (rs := [18]) (by kernel_rfl) (by simp) (fun j hj o ho => ?_)
       obtain rfl : j = 18 := by simpa using hj
       cases ho
       refine wl_store_row ty35 hS3243 rfl (v := .slice _ _ _) rfl (vs := [.slice _ _ _]) rfl rfl rfl (.there (.there .here)) (Nat.le_trans (by simp only [Nat.zero_add]; omega) (row_room hrc2313 hx2997)) ?_
       intro w3250 hS3251
       rw [spl_one (tab_lt hrc2313 hx2997)] at hS3251
       have hrc3252 := RCs.seti hrc2313 hx2997 (vs := [.slice a3239 ((insAt x2950 r2972.1.toNat x2300).length) c3240]) (y := (insAt x2950 r2972.1.toNat x2300)) rfl ⟨_, _, rfl⟩
       rw [spl_one (tab_lt hrc2313 hx2997)] at hrc3252
       have hS3254 := back3236 [.box b7 30 [.slice a2302 y2301.length c2304, .int .i64 r2972.2], .row (.slice (some ⟨b3019, 0, none⟩) l2307.length c2310) 35 1 (cs2311.set r2325.1.toNat (.slice a3239 ((insAt x2950 r2972.1.toNat x2300).length) c3240))] _ _ _ hS3251
       simp only [List.cons_append, List.nil_append] at hS3254
       generalize cs2311.set r2325.1.toNat (.slice a3239 ((insAt x2950 r2972.1.toNat x2300).length) c3240) = cs3253 at hS3254 hrc3252
       refine wl_nil ?_
       have hH3255 := hS3254.toHeld.mono (Mem.le_refl _) (List.Sublist.subset (.cons _ (.cons _ (List.sublist_append_right _ _))))
       refine ⟨hH3255, ?_⟩
       refine d_end (by kernel_rfl) ?_
       exact ⟨_, _, _, _, row_n (hS3254.toHeld.own (.there .here)) hrc3252 (by decide), hrc3252, hS3254, rfl, rfl, rfl, rfl⟩
     ·cases ho
      refine wl_buildSlice Try.underlying35 ty3 rfl (by decide) (by decide) hS3018 (ps := [(0, [.int .i64 _])]) rfl rfl (cs := [.int .i64 _]) rfl rfl (by decide) ?_
      intro b3257 w3258 hS3259
      have hrc3260 : RCs 1 RInt m [.int .i64 x2300] ([x2300] : List Int) := (RCs.cons (d := [.int .i64 x2300]) rfl rfl RCs.nil)
      refine wl_nil ?_
      have hH3261 := hS3259.toHeld.mono (Mem.le_refl _) (List.Sublist.subset (.cons _ (.cons _ (.cons _ (List.sublist_append_right _ _)))))
      refine ⟨hH3261, ?_⟩
      refine d_all (rs := [5, 13]) (by kernel_rfl) (by simp) (fun j hj o ho => ?_)
      simp only [List.mem_cons, List.not_mem_nil, or_false] at hj
      rcases hj with rfl | rfl
      ·cases ho
       refine wl_h hS3259.toHeld (r_row ty35 (k := 0) (i := r2325.1.toNat) (.there (.there .here)) rfl rfl (row_room hrc2313 hx2951) hes3021 rfl (v := .slice _ _ _) rfl) <| wl_nil ?_
       have hH3262 := hS3259.toHeld.mono (Mem.le_refl _) (List.Sublist.subset (.cons _ (.cons _ (.cons _ (List.sublist_append_right _ _)))))
       refine ⟨hH3262, ?_⟩
       refine d_all (rs := [13]) (by kernel_rfl) (by simp) (fun j hj o ho => ?_)
       obtain rfl : j = 13 := by simpa using hj
       cases ho
       have hS3263 := hS3259.front (.there .here)
       refine wl_call ent7 (vals := [.pointer (some ⟨_, _, none⟩), .int .i64 _]) rfl (cg7 hS3263 hr2305 hq2973) ?_
       rintro _ w3265 ⟨rfl, hS3266⟩
       refine wl_nil ?_
       have hH3267 := hS3266.toHeld.mono (Mem.le_refl _) (List.Sublist.subset (.cons _ (.cons _ (.cons _ (List.sublist_append_right _ _)))))
       refine ⟨hH3267, ?_⟩
       refine d_all (rs := [16]) (by kernel_rfl) (by simp) (fun j hj o ho => ?_)
       obtain rfl : j = 16 := by simpa using hj
       cases ho
       have hS3268 := hS3266.front (.there .here)
       obtain ⟨R3269, hS3271, back3270⟩ := tab_take (A := [.row (.slice (some ⟨b3257, 0, none⟩) 1 1) 3 1 [.int .i64 x2300], .box b7 30 [.slice a2302 y2301.length c2304, .int .i64 r2972.2], .row (.slice (some ⟨b3019, 0, none⟩) l2307.length c2310) 35 1 cs2311]) (L := L) hS3268 (take_get hes3021) hx2951
       simp only [List.cons_append, List.nil_append] at hS3271
       refine wl_call ent21 (vals := [.slice _ _ _, .int .i64 _, .slice _ _ _]) rfl (insert_rowI Try.lInsert hS3271 hc2984 hc2985) ?_
       rintro _ w3272 ⟨a3273, c3274, rfl, hS3275⟩
       have hS3277 := hS3275.weaken (.cons_cons _ (.cons _ (.cons_cons _ (.cons_cons _ (.refl _)))))
       refine wl_nil ?_
       have hH3278 := hS3277.toHeld.mono (Mem.le_refl _) (List.Sublist.subset (.cons _ (.cons _ (.cons _ (List.sublist_append_right _ _)))))
       refine ⟨hH3278, ?_⟩
       obtain ⟨es3279, hes3280, hR3281⟩ := row_read hrc2313 hx2997
       obtain ⟨a3282, c3283, rfl⟩ := hR3281
       refine d_v (i := 17) rfl (by kernel_rfl) rfl (r_indexAddr Try.underlying24 ty35 (b := _) (o := _) (n := _) (c := _) (i := r2325.1) rfl rfl h2998 (row_lt (hS3277.toHeld.own (.there (.there .here))) hrc2313 (by decide) h2999)) hH3278 ?_
       refine d_all (rs := [18]) (by kernel_rfl) (by simp) (fun j hj o ho => ?_)
       obtain rfl : j = 18 := by simpa using hj
       cases ho
       refine wl_store_row ty35 hS3277 rfl (v := .slice _ _ _) rfl (vs := [.slice _ _ _]) rfl rfl rfl (.there (.there .here)) (Nat.le_trans (by simp only [Nat.zero_add]; omega) (row_room hrc2313 hx2997)) ?_
       intro w3284 hS3285
       rw [spl_one (tab_lt hrc2313 hx2997)] at hS3285
       have hrc3286 := RCs.seti hrc2313 hx2997 (vs := [.slice a3273 ((insAt x2950 r2972.1.toNat x2300).length) c3274]) (y := (insAt x2950 r2972.1.toNat x2300)) rfl ⟨_, _, rfl⟩
       rw [spl_one (tab_lt hrc2313 hx2997)] at hrc3286
       have hS3288 := back3270 [.box b7 30 [.slice a2302 y2301.length c2304, .int .i64 r2972.2], .row (.slice (some ⟨b3019, 0, none⟩) l2307.length c2310) 35 1 (cs2311.set r2325.1.toNat (.slice a3273 ((insAt x2950 r2972.1.toNat x2300).length) c3274))] _ _ _ hS3285
       simp only [List.cons_append, List.nil_append] at hS3288
       generalize cs2311.set r2325.1.toNat (.slice a3273 ((insAt x2950 r2972.1.toNat x2300).length) c3274) = cs3287 at hS3288 hrc3286
       refine wl_nil ?_
       have hH3289 := hS3288.toHeld.mono (Mem.le_refl _) (List.Sublist.subset (.cons _ (.cons _ (List.sublist_append_right _ _))))
       refine ⟨hH3289, ?_⟩
       refine d_end (by kernel_rfl) ?_
       exact ⟨_, _, _, _, row_n (hS3288.toHeld.own (.there .here)) hrc3286 (by decide), hrc3286, hS3288, rfl, rfl, rfl, rfl⟩
      ·cases ho
       have hS3290 := hS3259.front (.there .here)
       refine wl_call ent7 (vals := [.pointer (some ⟨_, _, none⟩), .int .i64 _]) rfl (cg7 hS3290 hr2305 hq2973) ?_
       rintro _ w3292 ⟨rfl, hS3293⟩
       refine wl_nil ?_
       have hH3294 := hS3293.toHeld.mono (Mem.le_refl _) (List.Sublist.subset (.cons _ (.cons _ (.cons _ (List.sublist_append_right _ _)))))
       refine ⟨hH3294, ?_⟩
       refine d_all (rs := [5]) (by kernel_rfl) (by simp) (fun j hj o ho => ?_)
       obtain rfl : j = 5 := by simpa using hj
       cases ho
       refine wl_h hS3293.toHeld (r_row ty35 (k := 0) (i := r2325.1.toNat) (.there (.there .here)) rfl rfl (row_room hrc2313 hx2951) hes3021 rfl (v := .slice _ _ _) rfl) <| wl_nil ?_
       have hH3295 := hS3293.toHeld.mono (Mem.le_refl _) (List.Sublist.subset (.cons _ (.cons _ (.cons _ (List.sublist_append_right _ _)))))
       refine ⟨hH3295, ?_⟩
       refine d_all (rs := [16]) (by kernel_rfl) (by simp) (fun j hj o ho => ?_)
       obtain rfl : j = 16 := by simpa using hj
       cases ho
       have hS3296 := hS3293.front (.there .here)
       obtain ⟨R3297, hS3299, back3298⟩ := tab_take (A := [.row (.slice (some ⟨b3257, 0, none⟩) 1 1) 3 1 [.int .i64 x2300], .box b7 30 [.slice a2302 y2301.length c2304, .int .i64 r2972.2], .row (.slice (some ⟨b3019, 0, none⟩) l2307.length c2310) 35 1 cs2311]) (L := L) hS3296 (take_get hes3021) hx2951
       simp only [List.cons_append, List.nil_append] at hS3299
       refine wl_call ent21 (vals := [.slice _ _ _, .int .i64 _, .slice _ _ _]) rfl (insert_rowI Try.lInsert hS3299 hc2984 hc2985) ?_
       rintro _ w3300 ⟨a3301, c3302, rfl, hS3303⟩
       have hS3305 := hS3303.weaken (.cons_cons _ (.cons _ (.cons_cons _ (.cons_cons _ (.refl _)))))
       refine wl_nil ?_
       have hH3306 := hS3305.toHeld.mono (Mem.le_refl _) (List.Sublist.subset (.cons _ (.cons _ (.cons _ (List.sublist_append_right _ _)))))
       refine ⟨hH3306, ?_⟩
       obtain ⟨es3307, hes3308, hR3309⟩ := row_read hrc2313 hx2997
       obtain ⟨a3310, c3311, rfl⟩ := hR3309
       refine d_v (i := 17) rfl (by kernel_rfl) rfl (r_indexAddr Try.underlying24 ty35 (b := _) (o := _) (n := _) (c := _) (i := r2325.1) rfl rfl h2998 (row_lt (hS3305.toHeld.own (.there (.there .here))) hrc2313 (by decide) h2999)) hH3306 ?_
       refine d_all (rs := [18]) (by kernel_rfl) (by simp) (fun j hj o ho => ?_)
       obtain rfl : j = 18 := by simpa using hj
       cases ho
       refine wl_store_row ty35 hS3305 rfl (v := .slice _ _ _) rfl (vs := [.slice _ _ _]) rfl rfl rfl (.there (.there .here)) (Nat.le_trans (by simp only [Nat.zero_add]; omega) (row_room hrc2313 hx2997)) ?_
       intro w3312 hS3313
       rw [spl_one (tab_lt hrc2313 hx2997)] at hS3313
       have hrc3314 := RCs.seti hrc2313 hx2997 (vs := [.slice a3301 ((insAt x2950 r2972.1.toNat x2300).length) c3302]) (y := (insAt x2950 r2972.1.toNat x2300)) rfl ⟨_, _, rfl⟩
       rw [spl_one (tab_lt hrc2313 hx2997)] at hrc3314
       have hS3316 := back3298 [.box b7 30 [.slice a2302 y2301.length c2304, .int .i64 r2972.2], .row (.slice (some ⟨b3019, 0, none⟩) l2307.length c2310) 35 1 (cs2311.set r2325.1.toNat (.slice a3301 ((insAt x2950 r2972.1.toNat x2300).length) c3302))] _ _ _ hS3313
       simp only [List.cons_append, List.nil_append] at hS3316
       generalize cs2311.set r2325.1.toNat (.slice a3301 ((insAt x2950 r2972.1.toNat x2300).length) c3302) = cs3315 at hS3316 hrc3314
       refine wl_nil ?_
       have hH3317 := hS3316.toHeld.mono (Mem.le_refl _) (List.Sublist.subset (.cons _ (.cons _ (List.sublist_append_right _ _))))
       refine ⟨hH3317, ?_⟩
       refine d_end (by kernel_rfl) ?_
       exact ⟨_, _, _, _, row_n (hS3316.toHeld.own (.there .here)) hrc3314 (by decide), hrc3314, hS3316, rfl, rfl, rfl, rfl⟩
    ·cases ho
     refine wl_buildSlice Try.underlying35 ty3 rfl (by decide) (by decide) hS3018 (ps := [(0, [.int .i64 _])]) rfl rfl (cs := [.int .i64 _]) rfl rfl (by decide) ?_
     intro b3319 w3320 hS3321
     have hrc3322 : RCs 1 RInt m [.int .i64 x2300] ([x2300] : List Int) := (RCs.cons (d := [.int .i64 x2300]) rfl rfl RCs.nil)
     refine wl_nil ?_
     have hH3323 := hS3321.toHeld.mono (Mem.le_refl _) (List.Sublist.subset (.cons _ (.cons _ (.cons _ (List.sublist_append_right _ _)))))
     refine ⟨hH3323, ?_⟩
     refine d_all (rs := [5, 10]) (by kernel_rfl) (by simp) (fun j hj o ho => ?_)
     simp only [List.mem_cons, List.not_mem_nil, or_false] at hj
     rcases hj with rfl | rfl
     ·cases ho
      refine wl_h hS3321.toHeld (r_row ty35 (k := 0) (i := r2325.1.toNat) (.there (.there .here)) rfl rfl (row_room hrc2313 hx2951) hes3021 rfl (v := .slice _ _ _) rfl) <| wl_nil ?_
      have hH3324 := hS3321.toHeld.mono (Mem.le_refl _) (List.Sublist.subset (.cons _ (.cons _ (.cons _ (List.sublist_append_right _ _)))))
      refine ⟨hH3324, ?_⟩
      refine d_all (rs := [10]) (by kernel_rfl) (by simp) (fun j hj o ho => ?_)
      obtain rfl : j = 10 := by simpa using hj
      cases ho
      refine wl_h hS3321.toHeld (r_row ty35 (k := 0) (i := r2325.1.toNat) (.there (.there .here)) rfl rfl (row_room hrc2313 hx2961) hes3026 rfl (v := .slice _ _ _) rfl) <| wl_nil ?_
      have hH3325 := hS3321.toHeld.mono (Mem.le_refl _) (List.Sublist.subset (.cons _ (.cons _ (.cons _ (List.sublist_append_right _ _)))))
      refine ⟨hH3325, ?_⟩
      refine d_v (i := 11) rfl (by kernel_rfl) rfl (r_len Try.underlying35 (a := _) (n := _) (c := _) rfl) hH3325 ?_
      refine d_v (i := 12) rfl (by kernel_rfl) rfl (r_add (a := _) (b := _) rfl rfl (ok_lo hc2971) (ok_hi hc2971)) hH3325 ?_
      refine d_all (rs := [13]) (by kernel_rfl) (by simp) (fun j hj o ho => ?_)
      obtain rfl : j = 13 := by simpa using hj
      cases ho
      have hS3326 := hS3321.front (.there .here)
      refine wl_call ent7 (vals := [.pointer (some ⟨_, _, none⟩), .int .i64 _]) rfl (cg7 hS3326 hr2305 hq2973) ?_
      rintro _ w3328 ⟨rfl, hS3329⟩
      refine wl_nil ?_
      have hH3330 := hS3329.toHeld.mono (Mem.le_refl _) (List.Sublist.subset (.cons _ (.cons _ (.cons _ (List.sublist_append_right _ _)))))
      refine ⟨hH3330, ?_⟩
      refine d_all (rs := [16]) (by kernel_rfl) (by simp) (fun j hj o ho => ?_)
      obtain rfl : j = 16 := by simpa using hj
      cases ho
      have hS3331 := hS3329.front (.there .here)
      obtain ⟨R3332, hS3334, back3333⟩ := tab_take (A := [.row (.slice (some ⟨b3319, 0, none⟩) 1 1) 3 1 [.int .i64 x2300], .box b7 30 [.slice a2302 y2301.length c2304, .int .i64 r2972.2], .row (.slice (some ⟨b3019, 0, none⟩) l2307.length c2310) 35 1 cs2311]) (L := L) hS3331 (take_get hes3021) hx2951
      simp only [List.cons_append, List.nil_append] at hS3334
      refine wl_call ent21 (vals := [.slice _ _ _, .int .i64 _, .slice _ _ _]) rfl (insert_rowI Try.lInsert hS3334 hc2984 hc2985) ?_
      rintro _ w3335 ⟨a3336, c3337, rfl, hS3338⟩
      have hS3340 := hS3338.weaken (.cons_cons _ (.cons _ (.cons_cons _ (.cons_cons _ (.refl _)))))
      refine wl_nil ?_
      have hH3341 := hS3340.toHeld.mono (Mem.le_refl _) (List.Sublist.subset (.cons _ (.cons _ (.cons _ (List.sublist_append_right _ _)))))
      refine ⟨hH3341, ?_⟩
      obtain ⟨es3342, hes3343, hR3344⟩ := row_read hrc2313 hx2997
      obtain ⟨a3345, c3346, rfl⟩ := hR3344
      refine d_v (i := 17) rfl (by kernel_rfl) rfl (r_indexAddr Try.underlying24 ty35 (b := _) (o := _) (n := _) (c := _) (i := r2325.1) rfl rfl h2998 (row_lt (hS3340.toHeld.own (.there (.there .here))) hrc2313 (by decide) h2999)) hH3341 ?_
      refine d_all (rs := [18]) (by kernel_rfl) (by simp) (fun j hj o ho => ?_)
      obtain rfl : j = 18 := by simpa using hj
      cases ho
      refine wl_store_row ty35 hS3340 rfl (v := .slice _ _ _) rfl (vs := [.slice _ _ _]) rfl rfl rfl (.there (.there .here)) (Nat.le_trans (by simp only [Nat.zero_add]; omega) (row_room hrc2313 hx2997)) ?_
      intro w3347 hS3348
      rw [spl_one (tab_lt hrc2313 hx2997)] at hS3348
      have hrc3349 := RCs.seti hrc2313 hx2997 (vs := [.slice a3336 ((insAt x2950 r2972.1.toNat x2300).length) c3337]) (y := (insAt x2950 r2972.1.toNat x2300)) rfl ⟨_, _, rfl⟩
      rw [spl_one (tab_lt hrc2313 hx2997)] at hrc3349
      have hS3351 := back3333 [.box b7 30 [.slice a2302 y2301.length c2304, .int .i64 r2972.2], .row (.slice (some ⟨b3019, 0, none⟩) l2307.length c2310) 35 1 (cs2311.set r2325.1.toNat (.slice a3336 ((insAt x2950 r2972.1.toNat x2300).length) c3337))] _ _ _ hS3348
      simp only [List.cons_append, List.nil_append] at hS3351
      generalize cs2311.set r2325.1.toNat (.slice a3336 ((insAt x2950 r2972.1.toNat x2300).length) c3337) = cs3350 at hS3351 hrc3349
      refine wl_nil ?_
      have hH3352 := hS3351.toHeld.mono (Mem.le_refl _) (List.Sublist.subset (.cons _ (.cons _ (List.sublist_append_right _ _))))
      refine ⟨hH3352, ?_⟩
      refine d_end (by kernel_rfl) ?_
      exact ⟨_, _, _, _, row_n (hS3351.toHeld.own (.there .here)) hrc3349 (by decide), hrc3349, hS3351, rfl, rfl, rfl, rfl⟩
     ·cases ho
      refine wl_h hS3321.toHeld (r_row ty35 (k := 0) (i := r2325.1.toNat) (.there (.there .here)) rfl rfl (row_room hrc2313 hx2961) hes3026 rfl (v := .slice _ _ _) rfl) <| wl_nil ?_
      have hH3353 := hS3321.toHeld.mono (Mem.le_refl _) (List.Sublist.subset (.cons _ (.cons _ (.cons _ (List.sublist_append_right _ _)))))
      refine ⟨hH3353, ?_⟩
      refine d_v (i := 11) rfl (by kernel_rfl) rfl (r_len Try.underlying35 (a := _) (n := _) (c := _) rfl) hH3353 ?_
      refine d_v (i := 12) rfl (by kernel_rfl) rfl (r_add (a := _) (b := _) rfl rfl (ok_lo hc2971) (ok_hi hc2971)) hH3353 ?_
      refine d_all (rs := [5, 13]) (by kernel_rfl) (by simp) (fun j hj o ho => ?_)
      simp only [List.mem_cons, List.not_mem_nil, or_false] at hj
      rcases hj with rfl | rfl
      ·cases ho
       refine wl_h hS3321.toHeld (r_row ty35 (k := 0) (i := r2325.1.toNat) (.there (.there .here)) rfl rfl (row_room hrc2313 hx2951) hes3021 rfl (v := .slice _ _ _) rfl) <| wl_nil ?_
       have hH3354 := hS3321.toHeld.mono (Mem.le_refl _) (List.Sublist.subset (.cons _ (.cons _ (.cons _ (List.sublist_append_right _ _)))))
       refine ⟨hH3354, ?_⟩
       refine d_all (rs := [13]) (by kernel_rfl) (by simp) (fun j hj o ho => ?_)
       obtain rfl : j = 13 := by simpa using hj
       cases ho
       have hS3355 := hS3321.front (.there .here)
       refine wl_call ent7 (vals := [.pointer (some ⟨_, _, none⟩), .int .i64 _]) rfl (cg7 hS3355 hr2305 hq2973) ?_
       rintro _ w3357 ⟨rfl, hS3358⟩
       refine wl_nil ?_
       have hH3359 := hS3358.toHeld.mono (Mem.le_refl _) (List.Sublist.subset (.cons _ (.cons _ (.cons _ (List.sublist_append_right _ _)))))
       refine ⟨hH3359, ?_⟩
       refine d_all (rs := [16]) (by kernel_rfl) (by simp) (fun j hj o ho => ?_)
       obtain rfl : j = 16 := by simpa using hj
       cases ho
       have hS3360 := hS3358.front (.there .here)
       obtain ⟨R3361, hS3363, back3362⟩ := tab_take (A := [.row (.slice (some ⟨b3319, 0, none⟩) 1 1) 3 1 [.int .i64 x2300], .box b7 30 [.slice a2302 y2301.length c2304, .int .i64 r2972.2], .row (.slice (some ⟨b3019, 0, none⟩) l2307.length c2310) 35 1 cs2311]) (L := L) hS3360 (take_get hes3021) hx2951
       simp only [List.cons_append, List.nil_append] at hS3363
       refine wl_call ent21 (vals := [.slice _ _ _, .int .i64 _, .slice _ _ _]) rfl (insert_rowI Try.lInsert hS3363 hc2984 hc2985) ?_
       rintro _ w3364 ⟨a3365, c3366, rfl, hS3367⟩
       have hS3369 := hS3367.weaken (.cons_cons _ (.cons _ (.cons_cons _ (.cons_cons _ (.refl _)))))
       refine wl_nil ?_
       have hH3370 := hS3369.toHeld.mono (Mem.le_refl _) (List.Sublist.subset (.cons _ (.cons _ (.cons _ (List.sublist_append_right _ _)))))
       refine ⟨hH3370, ?_⟩
       obtain ⟨es3371, hes3372, hR3373⟩ := row_read hrc2313 hx2997
       obtain ⟨a3374, c3375, rfl⟩ := hR3373
       refine d_v (i := 17) rfl (by kernel_rfl) rfl (r_indexAddr Try.underlying24 ty35 (b := _) (o := _) (n := _) (c := _) (i := r2325.1) rfl rfl h2998 (row_lt (hS3369.toHeld.own (.there (.there .here))) hrc2313 (by decide) h2999)) hH3370 ?_
       refine d_all (rs := [18]) (by kernel_rfl) (by simp) (fun j hj o ho => ?_)
       obtain rfl : j = 18 := by simpa using hj
       cases ho
       refine wl_store_row ty35 hS3369 rfl (v := .slice _ _ _) rfl (vs := [.slice _ _ _]) rfl rfl rfl (.there (.there .here)) (Nat.le_trans (by simp only [Nat.zero_add]; omega) (row_room hrc2313 hx2997)) ?_
       intro w3376 hS3377
       rw [spl_one (tab_lt hrc2313 hx2997)] at hS3377
       have hrc3378 := RCs.seti hrc2313 hx2997 (vs := [.slice a3365 ((insAt x2950 r2972.1.toNat x2300).length) c3366]) (y := (insAt x2950 r2972.1.toNat x2300)) rfl ⟨_, _, rfl⟩
       rw [spl_one (tab_lt hrc2313 hx2997)] at hrc3378
       have hS3380 := back3362 [.box b7 30 [.slice a2302 y2301.length c2304, .int .i64 r2972.2], .row (.slice (some ⟨b3019, 0, none⟩) l2307.length c2310) 35 1 (cs2311.set r2325.1.toNat (.slice a3365 ((insAt x2950 r2972.1.toNat x2300).length) c3366))] _ _ _ hS3377
       simp only [List.cons_append, List.nil_append] at hS3380
       generalize cs2311.set r2325.1.toNat (.slice a3365 ((insAt x2950 r2972.1.toNat x2300).length) c3366) = cs3379 at hS3380 hrc3378
       refine wl_nil ?_
       have hH3381 := hS3380.toHeld.mono (Mem.le_refl _) (List.Sublist.subset (.cons _ (.cons _ (List.sublist_append_right _ _))))
       refine ⟨hH3381, ?_⟩
       refine d_end (by kernel_rfl) ?_
       exact ⟨_, _, _, _, row_n (hS3380.toHeld.own (.there .here)) hrc3378 (by decide), hrc3378, hS3380, rfl, rfl, rfl, rfl⟩
      ·cases ho
       have hS3382 := hS3321.front (.there .here)
       refine wl_call ent7 (vals := [.pointer (some ⟨_, _, none⟩), .int .i64 _]) rfl (cg7 hS3382 hr2305 hq2973) ?_
       rintro _ w3384 ⟨rfl, hS3385⟩
       refine wl_nil ?_
       have hH3386 := hS3385.toHeld.mono (Mem.le_refl _) (List.Sublist.subset (.cons _ (.cons _ (.cons _ (List.sublist_append_right _ _)))))
       refine ⟨hH3386, ?_⟩
       refine d_all (rs := [5]) (by kernel_rfl) (by simp) (fun j hj o ho => ?_)
       obtain rfl : j = 5 := by simpa using hj
       cases ho
       refine wl_h hS3385.toHeld (r_row ty35 (k := 0) (i := r2325.1.toNat) (.there (.there .here)) rfl rfl (row_room hrc2313 hx2951) hes3021 rfl (v := .slice _ _ _) rfl) <| wl_nil ?_
       have hH3387 := hS3385.toHeld.mono (Mem.le_refl _) (List.Sublist.subset (.cons _ (.cons _ (.cons _ (List.sublist_append_right _ _)))))
       refine ⟨hH3387, ?_⟩
       refine d_all (rs := [16]) (by kernel_rfl) (by simp) (fun j hj o ho => ?_)
       obtain rfl : j = 16 := by simpa using hj
       cases ho
       have hS3388 := hS3385.front (.there .here)
       obtain ⟨R3389, hS3391, back3390⟩ := tab_take (A := [.row (.slice (some ⟨b3319, 0, none⟩) 1 1) 3 1 [.int .i64 x2300], .box b7 30 [.slice a2302 y2301.length c2304, .int .i64 r2972.2], .row (.slice (some ⟨b3019, 0, none⟩) l2307.length c2310) 35 1 cs2311]) (L := L) hS3388 (take_get hes3021) hx2951
       simp only [List.cons_append, List.nil_append] at hS3391
       refine wl_call ent21 (vals := [.slice _ _ _, .int .i64 _, .slice _ _ _]) rfl (insert_rowI Try.lInsert hS3391 hc2984 hc2985) ?_
       rintro _ w3392 ⟨a3393, c3394, rfl, hS3395⟩
       have hS3397 := hS3395.weaken (.cons_cons _ (.cons _ (.cons_cons _ (.cons_cons _ (.refl _)))))
       refine wl_nil ?_
       have hH3398 := hS3397.toHeld.mono (Mem.le_refl _) (List.Sublist.subset (.cons _ (.cons _ (.cons _ (List.sublist_append_right _ _)))))
       refine ⟨hH3398, ?_⟩
       obtain ⟨es3399, hes3400, hR3401⟩ := row_read hrc2313 hx2997
       obtain ⟨a3402, c3403, rfl⟩ := hR3401
       refine d_v (i := 17) rfl (by kernel_rfl) rfl (r_indexAddr Try.underlying24 ty35 (b := _) (o := _) (n := _) (c := _) (i := r2325.1) rfl rfl h2998 (row_lt (hS3397.toHeld.own (.there (.there .here))) hrc2313 (by decide) h2999)) hH3398 ?_
       refine d_all (rs := [18]) (by kernel_rfl) (by simp) (fun j hj o ho => ?_)
       obtain rfl : j = 18 := by simpa using hj
       cases ho
       refine wl_store_row ty35 hS3397 rfl (v := .slice _ _ _) rfl (vs := [.slice _ _ _]) rfl rfl rfl (.there (.there .here)) (Nat.le_trans (by simp only [Nat.zero_add]; omega) (row_room hrc2313 hx2997)) ?_
       intro w3404 hS3405
       rw [spl_one (tab_lt hrc2313 hx2997)] at hS3405
       have hrc3406 := RCs.seti hrc2313 hx2997 (vs := [.slice a3393 ((insAt x2950 r2972.1.toNat x2300).length) c3394]) (y := (insAt x2950 r2972.1.toNat x2300)) rfl ⟨_, _, rfl⟩
       rw [spl_one (tab_lt hrc2313 hx2997)] at hrc3406
       have hS3408 := back3390 [.box b7 30 [.slice a2302 y2301.length c2304, .int .i64 r2972.2], .row (.slice (some ⟨b3019, 0, none⟩) l2307.length c2310) 35 1 (cs2311.set r2325.1.toNat (.slice a3393 ((insAt x2950 r2972.1.toNat x2300).length) c3394))] _ _ _ hS3405
       simp only [List.cons_append, List.nil_append] at hS3408
       generalize cs2311.set r2325.1.toNat (.slice a3393 ((insAt x2950 r2972.1.toNat x2300).length) c3394) = cs3407 at hS3408 hrc3406
       refine wl_nil ?_
       have hH3409 := hS3408.toHeld.mono (Mem.le_refl _) (List.Sublist.subset (.cons _ (.cons _ (List.sublist_append_right _ _))))
       refine ⟨hH3409, ?_⟩
       refine d_end (by kernel_rfl) ?_
       exact ⟨_, _, _, _, row_n (hS3408.toHeld.own (.there .here)) hrc3406 (by decide), hrc3406, hS3408, rfl, rfl, rfl, rfl⟩
   ·rintro f3415 w3416 ⟨a3011, n3012, c3013, cs3014, hn3015, hrc3016, hS3410, e3411, e3412, e3413, e3414⟩
    subst hn3015
    refine c_know (t := 5) e3411 <| c_know (t := 6) e3412 <| c_know (t := 12) e3413 <| c_know (t := 13) e3414 ?_
    clear e3411 e3412 e3413 e3414
    refine c_nil <| q_norm <| c_region ?_
    obtain ⟨hc3417, hM⟩ := chk_ok hM
    refine wl_h hS3410.toHeld (r_add (a := _) (b := _) rfl rfl (ok_lo hc3417) (ok_hi hc3417)) <| wl_h hS3410.toHeld (r_move (v := .int .i64 _) rfl) <| wl_nil <| c_nil <| q_loop ?_
    have hS3418 := hS3410.front (.there .here)
    exact ⟨k_0, Nat.lt_succ_self _, x2300 + 1, y2301, r2972.2, (l2307.set r2325.1.toNat (insAt x2950 r2972.1.toNat x2300)), a2302, y2301.length, c2304, a3011, ((l2307.set r2325.1.toNat (insAt x2950 r2972.1.toNat x2300))).length, c3013, cs3014, hM, hr2305, row_n (hS3418.toHeld.own .here) hrc3016 (by decide), hrc3016, hS3418, rfl, rfl, rfl, rfl⟩
 ·replace hM := bif_f h2322 hM
  refine c_exit <| q_loopx <| q_hit <| c_seq <| c_region <| wl_h hS2317.toHeld (r_move (v := .slice _ _ _) rfl) ?_
  refine wl_h hS2317.toHeld (r_assign (v := .slice _ _ _) rfl) <| wl_nil <| c_ret ?_
  obtain ⟨m3419, hm3420, hS3421, hrc3422⟩ := tab_half (A := [.row (.slice a2308 l2307.length c2310) 35 1 cs2311, .box b7 30 [.slice a2302 y2301.length c2304, .int .i64 y2306]]) hrc2313 hS2317
  simp only [List.cons_append, List.nil_append] at hS3421
  have le3423 := hm3420
  replace hr5 := RSl.mono RIntK.mono hr5 hm3420
  replace hrc2298 := RCs.mono RSv.mono hrc2298 hm3420
  replace hr2305 := RSl.mono RIntK.mono hr2305 hm3420
  refine ret_tmp (t := 4) rfl (v := .slice _ _ _) rfl ?_
  obtain rfl := some_eq hM
  have hS3424 := hS3421.weaken (.cons_cons _ (.cons _ (.refl _)))
  exact ⟨m3419, a2308, l2307.length, c2310, cs2311, rfl, le3423, row_n (hS3424.toHeld.own .here) hrc3422 (by decide), hrc3422, hS3424⟩

theorem cg57 {m : Mem} {L : List Atom} {w : World} {a1 : Option Addr} {n2 c3 : Nat} {s5 : List Int} {q6 : Int → Option Bool} {g7 : FuncId} {caps8 : List Value} (hS : St w m L) (hr4 : RSl 1 RInt m a1 n2 c3 s5) (he9 : Ent P0 g7) (hg10 : ∀ (m' : Mem) (E : List Atom) (w' : World) (x0 : Int) (r : Bool), m ≤ m' → St w' m' (E ++ L) → q6 x0 = some r → Calls P0 g7 (([.int .i64 x0] : List Value) ++ caps8).toArray w' (Ret fun v w'' => v = .bool r ∧ St w'' m' (E ++ L))) {fuel : Nat} {r : Int} (hM : mg57 fuel s5 q6 = some r) : Calls P0 57 [.slice a1 n2 c3, .func (.func g7) #[] caps8.toArray].toArray w (Ret fun v w' => v = .int .i64 r ∧ St w' m (L)) := by
 rw [mg57] at hM
 obtain rfl := hr4.1
 refine enter Try.func57 rfl Try.ntmps57 (Nat.le_of_ble_eq_true rfl) ?_
 refine c_seq <| c_region <| wl_h hS.toHeld (r_assign (v := .int .i64 _) rfl) <| wl_nil <| c_seq <| c_seq <| c_region <| wl_h hS.toHeld (r_move (v := .slice _ _ _) rfl) ?_
 refine wl_h hS.toHeld (r_len Try.underlying35 (a := _) (n := _) (c := _) rfl) <| wl_h hS.toHeld (r_move (v := .int .i64 _) rfl) <| wl_nil <| c_block <| c_loop (fun k f w => ∃ (x28 : Int), mg57_l0 fuel s5 q6 k x28 = some r ∧ St w m (L) ∧ f 0 = .slice a1 s5.length c3 ∧ f 1 = .func (.func g7) #[] caps8.toArray ∧ f 7 = .int .i64 ((s5.length : Nat) : Int) ∧ f 8 = .int .i64 x28) fuel ⟨0, hM, hS, rfl, rfl, rfl, rfl⟩ ?_
 rintro k_0 f29 w30 ⟨x28, hM, hS32, e33, e34, e35, e36⟩
 refine c_know (t := 0) e33 <| c_know (t := 1) e34 <| c_know (t := 7) e35 <| c_know (t := 8) e36 ?_
 clear e33 e34 e35 e36
 rcases k_0 with _ | k_0
 · exact none_ne hM
 rw [mg57_l0] at hM
 refine c_seq <| c_region <| wl_h hS32.toHeld (r_lss (a := _) (b := _) rfl rfl) <| wl_nil <| c_seq <| c_cond (c := _) rfl (fun h37 => ?_) (fun h37 => ?_)
 ·replace hM := bif_t h37 hM
  refine c_skip <| c_seq <| c_block <| c_seq <| c_region <| wl_h hS32.toHeld (r_move (v := .int .i64 _) rfl) ?_
  refine wl_h hS32.toHeld (r_assign (v := .int .i64 _) rfl) <| wl_nil <| c_seq <| c_region <| wl_h hS32.toHeld (r_move (v := .func (.func g7) #[] caps8.toArray) rfl) ?_
  refine wl_h hS32.toHeld (r_move (v := .slice _ _ _) rfl) <| wl_h hS32.toHeld (r_move (v := .int .i64 _) rfl) ?_
  obtain ⟨x38, hx39, h40, h41, hM⟩ := getK_ok hM
  obtain ⟨b42, o43, rfl⟩ := RSl.elem_a hr4 hx39
  obtain ⟨cs44, hI45, hR46⟩ := RSl.elem_at hr4 hx39
  obtain rfl := hR46
  refine wl_h hS32.toHeld (r_indexAddr Try.underlying35 ty3 (b := _) (o := _) (n := _) (c := _) (i := x28) rfl rfl h40 (RSl.lt hr4 h41)) <| wl_h hS32.toHeld (r_imm ty3 (k := 0) hI45 rfl rfl rfl (v := .int .i64 _) rfl) ?_
  obtain ⟨r47, hq48, hM⟩ := bnd_ok hM
  refine wl_callv he9 (caps := caps8) rfl (vals := [.int .i64 _]) rfl (hg10 _ [] _ _ _ (Mem.le_refl _) hS32  hq48) ?_
  rintro _ w49 ⟨rfl, hS50⟩
  simp only [List.cons_append, List.nil_append] at hS50
  refine wl_nil <| c_cond (c := _) rfl (fun h51 => ?_) (fun h51 => ?_)
  ·replace hM := bif_t h51 hM
   refine c_seq <| c_region <| wl_h hS50.toHeld (r_move (v := .int .i64 _) rfl) <| wl_h hS50.toHeld (r_assign (v := .int .i64 _) rfl) <| wl_nil <| c_ret <| q_retb ?_
   refine q_retl <| q_retb <| ret_tmp (t := 4) rfl (v := .int .i64 _) rfl ?_
   obtain rfl := some_eq hM
   exact ⟨rfl, hS50⟩
  ·replace hM := bif_f h51 hM
   refine c_skip <| c_nil <| q_norm <| c_region ?_
   obtain ⟨hc52, hM⟩ := chk_ok hM
   refine wl_h hS50.toHeld (r_add (a := _) (b := _) rfl rfl (ok_lo hc52) (ok_hi hc52)) <| wl_h hS50.toHeld (r_move (v := .int .i64 _) rfl) <| wl_nil <| c_nil <| q_loop ?_
   exact ⟨k_0, Nat.lt_succ_self _, x28 + 1, hM, hS50, rfl, rfl, rfl, rfl⟩
 ·replace hM := bif_f h37 hM
  refine c_exit <| q_loopx <| q_hit <| c_seq <| c_region <| wl_h hS32.toHeld (r_assign (v := .int .i64 _) rfl) ?_
  refine wl_nil <| c_ret <| ret_tmp (t := 4) rfl (v := .int .i64 _) rfl ?_
  obtain rfl := some_eq hM
  exact ⟨rfl, hS32⟩

theorem cg31 {m : Mem} {L : List Atom} {w : World} {a1 : Option Addr} {n2 c3 : Nat} {s5 : List Int} {q6 : Int → Option Bool} {g7 : FuncId} {caps8 : List Value} (hS : St w m L) (hr4 : RSl 1 RInt m a1 n2 c3 s5) (he9 : Ent P0 g7) (hg10 : ∀ (m' : Mem) (E : List Atom) (w' : World) (x0 : Int) (r : Bool), m ≤ m' → St w' m' (E ++ L) → q6 x0 = some r → Calls P0 g7 (([.int .i64 x0] : List Value) ++ caps8).toArray w' (Ret fun v w'' => v = .bool r ∧ St w'' m' (E ++ L))) {fuel : Nat} {r : Bool} (hM : mg31 fuel s5 q6 = some r) : Calls P0 31 [.slice a1 n2 c3, .func (.func g7) #[] caps8.toArray].toArray w (Ret fun v w' => v = .bool r ∧ St w' m (L)) := by
 rw [mg31] at hM
 obtain rfl := hr4.1
 refine enter Try.func31 rfl Try.ntmps31 (Nat.le_of_ble_eq_true rfl) ?_
 refine c_seq <| c_region <| wl_h hS.toHeld (r_assign (v := .bool _) rfl) <| wl_nil <| c_seq <| c_region <| wl_h hS.toHeld (r_move (v := .slice _ _ _) rfl) ?_
 refine wl_h hS.toHeld (r_move (v := .func (.func g7) #[] caps8.toArray) rfl) ?_
 obtain ⟨r11, hq12, hM⟩ := bnd_ok hM
 refine wl_call ent57 (vals := [.slice _ _ _, .func (.func g7) #[] caps8.toArray]) rfl (cg57 hS hr4 (q6 := q6) (caps8 := caps8) he9 (fun m' E w' x0 r hle hSt  hq => hg10 m' E w' x0 r hle hSt  hq) hq12) ?_
 rintro _ w14 ⟨rfl, hS15⟩
 refine wl_h hS15.toHeld (r_geq (a := _) (b := _) rfl rfl) <| wl_h hS15.toHeld (r_assign (v := .bool _) rfl) <| wl_nil <| c_ret <| ret_tmp (t := 4) rfl (v := .bool _) rfl ?_
 obtain rfl := some_eq hM
 exact ⟨rfl, hS15⟩

theorem cg33 {m : Mem} {L : List Atom} {w : World} {n1 : Int} {first2 : Int} {last3 : Int} (hS : St w m L)  {fuel : Nat} {r : Bool} (hM : mg33 fuel n1 first2 last3 = some r) : Calls P0 33 [.int .i64 n1, .int .i64 first2, .int .i64 last3].toArray w (Ret fun v w' => v = .bool r ∧ St w' m (L)) := by
 rw [mg33] at hM
 refine enter Try.func33 rfl Try.ntmps33 (Nat.le_of_ble_eq_true rfl) ?_
 refine c_seq <| c_region <| wl_h hS.toHeld (r_assign (v := .bool _) rfl) <| wl_nil <| c_seq <| c_region <| wl_h hS.toHeld (r_move (v := .int .i64 _) rfl) ?_
 refine wl_h hS.toHeld (r_move (v := .int .i64 _) rfl) <| wl_h hS.toHeld (r_geq (a := _) (b := _) rfl rfl) <| wl_h hS.toHeld (r_move (v := .bool _) rfl) <| wl_split rfl (c := _) (t := 10) (fun h4 => ?_) (fun h4 => ?_)
 ·replace hM := bif_t h4 hM
  refine wl_on (t := 10) rfl rfl ?_
  refine wl_h hS.toHeld (r_move (v := .int .i64 _) rfl) <| wl_on (t := 10) rfl rfl ?_
  refine wl_h hS.toHeld (r_move (v := .int .i64 _) rfl) <| wl_on (t := 10) rfl rfl ?_
  refine wl_h hS.toHeld (r_leq (a := _) (b := _) rfl rfl) <| wl_h hS.toHeld (r_pick_t rfl (v := .bool _) rfl) <| wl_h hS.toHeld (r_assign (v := .bool _) rfl) <| wl_nil <| c_ret <| ret_tmp (t := 6) rfl (v := .bool _) rfl ?_
  obtain rfl := some_eq hM
  exact ⟨rfl, hS⟩
 ·replace hM := bif_f h4 hM
  refine wl_off (t := 10) (b := false) rfl rfl rfl ?_
  refine wl_off (t := 10) (b := false) rfl rfl rfl ?_
  refine wl_off (t := 10) (b := false) rfl rfl rfl ?_
  refine wl_h hS.toHeld (r_pick_f rfl (v := .bool _) rfl) <| wl_h hS.toHeld (r_assign (v := .bool _) rfl) <| wl_nil <| c_ret <| ret_tmp (t := 6) rfl (v := .bool _) rfl ?_
  obtain rfl := some_eq hM
  exact ⟨rfl, hS⟩

theorem cg62 {m : Mem} {L : List Atom} {w : World} {n1 : Int} (hS : St w m L)  {fuel : Nat} {r : Bool} (hM : mg62 fuel n1 = some r) : Calls P0 62 [.int .i64 n1].toArray w (Ret fun v w' => v = .bool r ∧ St w' m (L)) := by
 rw [mg62] at hM
 refine enter Try.func62 rfl Try.ntmps62 (Nat.le_of_ble_eq_true rfl) ?_
 refine c_seq <| c_region <| wl_h hS.toHeld (r_assign (v := .bool _) rfl) <| wl_nil <| c_seq <| c_region <| wl_h hS.toHeld (r_move (v := .int .i64 _) rfl) ?_
 obtain ⟨r2, hq3, hM⟩ := bnd_ok hM
 refine wl_call ent33 (vals := [.int .i64 _, .int .i64 _, .int .i64 _]) rfl (cg33 hS hq3) ?_
 rintro _ w5 ⟨rfl, hS6⟩
 refine wl_h hS6.toHeld (r_not (b := _) rfl) <| wl_h hS6.toHeld (r_assign (v := .bool _) rfl) <| wl_nil <| c_ret <| ret_tmp (t := 2) rfl (v := .bool _) rfl ?_
 obtain rfl := some_eq hM
 exact ⟨rfl, hS6⟩

theorem cg38 {m : Mem} {L : List Atom} {w : World} {a1 : Option Addr} {n2 c3 : Nat} {l5 : List Int} (hS : St w m L) (hr4 : RSl 1 RInt m a1 n2 c3 l5) {fuel : Nat} {r : Bool} (hM : mg38 fuel l5 = some r) : Calls P0 38 [.slice a1 n2 c3].toArray w (Ret fun v w' => v = .bool r ∧ St w' m (L)) := by
 rw [mg38] at hM
 obtain rfl := hr4.1
 refine enter Try.func38 rfl Try.ntmps38 (Nat.le_of_ble_eq_true rfl) ?_
 refine c_seq <| c_region <| wl_h hS.toHeld (r_assign (v := .bool _) rfl) <| wl_nil <| c_seq <| c_region <| wl_h hS.toHeld (r_move (v := .slice _ _ _) rfl) ?_
 obtain ⟨r6, hq7, hM⟩ := bnd_ok hM
 refine wl_call ent31 (vals := [.slice _ _ _, .func (.func 62) #[] #[]]) rfl (cg31 hS hr4 (q6 := (mg62 fuel)) (caps8 := []) ent62 (fun m' E w' x0 r hle hSt  hq => cg62 hSt  hq) hq7) ?_
 rintro _ w9 ⟨rfl, hS10⟩
 refine wl_h hS10.toHeld (r_not (b := _) rfl) <| wl_h hS10.toHeld (r_assign (v := .bool _) rfl) <| wl_nil <| c_ret <| ret_tmp (t := 2) rfl (v := .bool _) rfl ?_
 obtain rfl := some_eq hM
 exact ⟨rfl, hS10⟩

theorem cg63 {m : Mem} {L : List Atom} {w : World} {a1 : Option Addr} {n2 c3 : Nat} {s5 : List Stop} {q6 : Stop → Option Bool} {g7 : FuncId} {caps8 : List Value} (hS : St w m L) (hr4 : RSl 5 RStop m a1 n2 c3 s5) (he9 : Ent P0 g7) (hg10 : ∀ (m' : Mem) (E : List Atom) (w' : World) (cs0 : List Value) (x0 : Stop) (r : Bool), m ≤ m' → St w' m' (E ++ L) → RStop m' cs0 x0 → q6 x0 = some r → Calls P0 g7 (([.agg cs0.toArray] : List Value) ++ caps8).toArray w' (Ret fun v w'' => v = .bool r ∧ St w'' m' (E ++ L))) {fuel : Nat} {r : Int} (hM : mg63 fuel s5 q6 = some r) : Calls P0 63 [.slice a1 n2 c3, .func (.func g7) #[] caps8.toArray].toArray w (Ret fun v w' => v = .int .i64 r ∧ St w' m (L)) := by
 rw [mg63] at hM
 obtain rfl := hr4.1
 refine enter Try.func63 rfl Try.ntmps63 (Nat.le_of_ble_eq_true rfl) ?_
 refine c_seq <| c_region <| wl_h hS.toHeld (r_assign (v := .int .i64 _) rfl) <| wl_nil <| c_seq <| c_seq <| c_region <| wl_h hS.toHeld (r_move (v := .slice _ _ _) rfl) ?_
 refine wl_h hS.toHeld (r_len Try.underlying23 (a := _) (n := _) (c := _) rfl) <| wl_h hS.toHeld (r_move (v := .int .i64 _) rfl) <| wl_nil <| c_block <| c_loop (fun k f w => ∃ (x28 : Int), mg63_l0 fuel s5 q6 k x28 = some r ∧ St w m (L) ∧ f 0 = .slice a1 s5.length c3 ∧ f 1 = .func (.func g7) #[] caps8.toArray ∧ f 7 = .int .i64 ((s5.length : Nat) : Int) ∧ f 8 = .int .i64 x28) fuel ⟨0, hM, hS, rfl, rfl, rfl, rfl⟩ ?_
 rintro k_0 f29 w30 ⟨x28, hM, hS32, e33, e34, e35, e36⟩
 refine c_know (t := 0) e33 <| c_know (t := 1) e34 <| c_know (t := 7) e35 <| c_know (t := 8) e36 ?_
 clear e33 e34 e35 e36
 rcases k_0 with _ | k_0
 · exact none_ne hM
 rw [mg63_l0] at hM
 refine c_seq <| c_region <| wl_h hS32.toHeld (r_lss (a := _) (b := _) rfl rfl) <| wl_nil <| c_seq <| c_cond (c := _) rfl (fun h37 => ?_) (fun h37 => ?_)
 ·replace hM := bif_t h37 hM
  refine c_skip <| c_seq <| c_block <| c_seq <| c_region <| wl_h hS32.toHeld (r_move (v := .int .i64 _) rfl) ?_
  refine wl_h hS32.toHeld (r_assign (v := .int .i64 _) rfl) <| wl_nil <| c_seq <| c_region <| wl_h hS32.toHeld (r_move (v := .func (.func g7) #[] caps8.toArray) rfl) ?_
  refine wl_h hS32.toHeld (r_move (v := .slice _ _ _) rfl) <| wl_h hS32.toHeld (r_move (v := .int .i64 _) rfl) ?_
  obtain ⟨x38, hx39, h40, h41, hM⟩ := getK_ok hM
  obtain ⟨b42, o43, rfl⟩ := RSl.elem_a hr4 hx39
  obtain ⟨cs44, hI45, hR46⟩ := RSl.elem_at hr4 hx39
  obtain rfl := hR46
  refine wl_h hS32.toHeld (r_indexAddr Try.underlying23 ty34 (b := _) (o := _) (n := _) (c := _) (i := x28) rfl rfl h40 (RSl.lt hr4 h41)) <| wl_h hS32.toHeld (r_imm ty34 (k := 0) hI45 rfl rfl rfl (v := .agg #[.int .i64 _, .int .i64 _, .int .i64 _, .int .i64 _, .int .i64 _]) rfl) ?_
  obtain ⟨r47, hq48, hM⟩ := bnd_ok hM
  refine wl_callv he9 (caps := caps8) rfl (vals := [.agg #[.int .i64 _, .int .i64 _, .int .i64 _, .int .i64 _, .int .i64 _]]) rfl (hg10 _ [] _ _ _ _ (Mem.le_refl _) hS32 rfl hq48) ?_
  rintro _ w49 ⟨rfl, hS50⟩
  simp only [List.cons_append, List.nil_append] at hS50
  refine wl_nil <| c_cond (c := _) rfl (fun h51 => ?_) (fun h51 => ?_)
  ·replace hM := bif_t h51 hM
   refine c_seq <| c_region <| wl_h hS50.toHeld (r_move (v := .int .i64 _) rfl) <| wl_h hS50.toHeld (r_assign (v := .int .i64 _) rfl) <| wl_nil <| c_ret <| q_retb ?_
   refine q_retl <| q_retb <| ret_tmp (t := 4) rfl (v := .int .i64 _) rfl ?_
   obtain rfl := some_eq hM
   exact ⟨rfl, hS50⟩
  ·replace hM := bif_f h51 hM
   refine c_skip <| c_nil <| q_norm <| c_region ?_
   obtain ⟨hc52, hM⟩ := chk_ok hM
   refine wl_h hS50.toHeld (r_add (a := _) (b := _) rfl rfl (ok_lo hc52) (ok_hi hc52)) <| wl_h hS50.toHeld (r_move (v := .int .i64 _) rfl) <| wl_nil <| c_nil <| q_loop ?_
   exact ⟨k_0, Nat.lt_succ_self _, x28 + 1, hM, hS50, rfl, rfl, rfl, rfl⟩
 ·replace hM := bif_f h37 hM
  refine c_exit <| q_loopx <| q_hit <| c_seq <| c_region <| wl_h hS32.toHeld (r_assign (v := .int .i64 _) rfl) ?_
  refine wl_nil <| c_ret <| ret_tmp (t := 4) rfl (v := .int .i64 _) rfl ?_
  obtain rfl := some_eq hM
  exact ⟨rfl, hS32⟩

theorem cg39 {m : Mem} {L : List Atom} {w : World} {a1 : Option Addr} {n2 c3 : Nat} {s5 : List Stop} {q6 : Stop → Option Bool} {g7 : FuncId} {caps8 : List Value} (hS : St w m L) (hr4 : RSl 5 RStop m a1 n2 c3 s5) (he9 : Ent P0 g7) (hg10 : ∀ (m' : Mem) (E : List Atom) (w' : World) (cs0 : List Value) (x0 : Stop) (r : Bool), m ≤ m' → St w' m' (E ++ L) → RStop m' cs0 x0 → q6 x0 = some r → Calls P0 g7 (([.agg cs0.toArray] : List Value) ++ caps8).toArray w' (Ret fun v w'' => v = .bool r ∧ St w'' m' (E ++ L))) {fuel : Nat} {r : Bool} (hM : mg39 fuel s5 q6 = some r) : Calls P0 39 [.slice a1 n2 c3, .func (.func g7) #[] caps8.toArray].toArray w (Ret fun v w' => v = .bool r ∧ St w' m (L)) := by
 rw [mg39] at hM
 obtain rfl := hr4.1
 refine enter Try.func39 rfl Try.ntmps39 (Nat.le_of_ble_eq_true rfl) ?_
 refine c_seq <| c_region <| wl_h hS.toHeld (r_assign (v := .bool _) rfl) <| wl_nil <| c_seq <| c_region <| wl_h hS.toHeld (r_move (v := .slice _ _ _) rfl) ?_
 refine wl_h hS.toHeld (r_move (v := .func (.func g7) #[] caps8.toArray) rfl) ?_
 obtain ⟨r11, hq12, hM⟩ := bnd_ok hM
 refine wl_call ent63 (vals := [.slice _ _ _, .func (.func g7) #[] caps8.toArray]) rfl (cg63 hS hr4 (q6 := q6) (caps8 := caps8) he9 (fun m' E w' cs0 x0 r hle hSt h0 hq => hg10 m' E w' cs0 x0 r hle hSt h0 hq) hq12) ?_
 rintro _ w14 ⟨rfl, hS15⟩
 refine wl_h hS15.toHeld (r_geq (a := _) (b := _) rfl rfl) <| wl_h hS15.toHeld (r_assign (v := .bool _) rfl) <| wl_nil <| c_ret <| ret_tmp (t := 4) rfl (v := .bool _) rfl ?_
 obtain rfl := some_eq hM
 exact ⟨rfl, hS15⟩

theorem cg40 {m : Mem} {L : List Atom} {w : World} {cs1 : List Value} {s3 : Stop} (hS : St w m L) (hx2 : RStop m cs1 s3) {fuel : Nat} {r : Bool} (hM : mg40 fuel s3 = some r) : Calls P0 40 [.agg cs1.toArray].toArray w (Ret fun v w' => v = .bool r ∧ St w' m (L)) := by
 rw [mg40] at hM
 obtain rfl := hx2
 refine enter Try.func40 rfl Try.ntmps40 (Nat.le_of_ble_eq_true rfl) ?_
 refine c_seq <| c_region <| wl_box hS (v := .agg #[.int .i64 _, .int .i64 _, .int .i64 _, .int .i64 _, .int .i64 _]) rfl (cs := [.int .i64 _, .int .i64 _, .int .i64 _, .int .i64 _, .int .i64 _]) rfl ?_
 intro b4 w5 hS6
 refine wl_h hS6.toHeld (r_assign (v := .bool _) rfl) <| wl_nil <| c_seq <| c_region <| wl_h hS6.toHeld (r_fieldAddr fld34_0 (b := _) (o := _) rfl) ?_
 refine wl_h hS6.toHeld (r_box ty3 (k := 0) .here rfl rfl rfl (v := .int .i64 _) rfl) ?_
 obtain ⟨r7, hq8, hM⟩ := bnd_ok hM
 refine wl_call ent33 (vals := [.int .i64 _, .int .i64 _, .int .i64 _]) rfl (cg33 hS6 hq8) ?_
 rintro _ w10 ⟨rfl, hS11⟩
 refine wl_h hS11.toHeld (r_not (b := _) rfl) <| wl_h hS11.toHeld (r_move (v := .bool _) rfl) <| wl_split rfl (c := _) (t := 7) (fun h12 => ?_) (fun h12 => ?_)
 ·replace hM := bif_t h12 hM
  refine wl_off (t := 7) (b := true) rfl rfl rfl ?_
  refine wl_off (t := 7) (b := true) rfl rfl rfl ?_
  refine wl_off (t := 7) (b := true) rfl rfl rfl ?_
  refine wl_off (t := 7) (b := true) rfl rfl rfl ?_
  refine wl_off (t := 7) (b := true) rfl rfl rfl ?_
  refine wl_off (t := 7) (b := true) rfl rfl rfl ?_
  refine wl_off (t := 7) (b := true) rfl rfl rfl ?_
  refine wl_off (t := 7) (b := true) rfl rfl rfl ?_
  refine wl_off (t := 7) (b := true) rfl rfl rfl ?_
  refine wl_h hS11.toHeld (r_pick_t rfl (v := .bool _) rfl) <| wl_h hS11.toHeld (r_move (v := .bool _) rfl) <| wl_off (t := 18) (b := true) rfl rfl rfl ?_
  refine wl_off (t := 18) (b := true) rfl rfl rfl ?_
  refine wl_off (t := 18) (b := true) rfl rfl rfl ?_
  refine wl_off (t := 18) (b := true) rfl rfl rfl ?_
  refine wl_h hS11.toHeld (r_pick_t rfl (v := .bool _) rfl) <| wl_h hS11.toHeld (r_move (v := .bool _) rfl) <| wl_off (t := 24) (b := true) rfl rfl rfl ?_
  refine wl_off (t := 24) (b := true) rfl rfl rfl ?_
  refine wl_off (t := 24) (b := true) rfl rfl rfl ?_
  refine wl_off (t := 24) (b := true) rfl rfl rfl ?_
  refine wl_off (t := 24) (b := true) rfl rfl rfl ?_
  refine wl_h hS11.toHeld (r_pick_t rfl (v := .bool _) rfl) <| wl_h hS11.toHeld (r_assign (v := .bool _) rfl) <| wl_nil <| c_ret <| ret_tmp (t := 2) rfl (v := .bool _) rfl ?_
  obtain rfl := some_eq hM
  have hS13 := hS11.weaken (.cons _ (.refl _))
  exact ⟨rfl, hS13⟩
 ·replace hM := bif_f h12 hM
  refine wl_on (t := 7) rfl rfl ?_
  refine wl_h hS11.toHeld (r_fieldAddr fld34_1 (b := _) (o := _) rfl) <| wl_on (t := 7) rfl rfl ?_
  refine wl_h hS11.toHeld (r_box ty3 (k := 1) .here rfl rfl rfl (v := .int .i64 _) rfl) <| wl_on (t := 7) rfl rfl ?_
  refine wl_h hS11.toHeld (r_fieldAddr fld34_2 (b := _) (o := _) rfl) <| wl_on (t := 7) rfl rfl ?_
  refine wl_h hS11.toHeld (r_box ty3 (k := 2) .here rfl rfl rfl (v := .int .i64 _) rfl) <| wl_on (t := 7) rfl rfl ?_
  refine wl_h hS11.toHeld (r_fieldAddr fld34_3 (b := _) (o := _) rfl) <| wl_on (t := 7) rfl rfl ?_
  refine wl_h hS11.toHeld (r_box ty3 (k := 3) .here rfl rfl rfl (v := .int .i64 _) rfl) <| wl_on (t := 7) rfl rfl ?_
  refine wl_buildSlice Try.underlying35 ty3 rfl (by decide) (by decide) hS11 (ps := [(0, [.int .i64 _]), (1, [.int .i64 _]), (2, [.int .i64 _])]) rfl rfl (cs := [.int .i64 _, .int .i64 _, .int .i64 _]) rfl rfl (by decide) ?_
  intro b15 w16 hS17
  have hrc18 : RCs 1 RInt m [.int .i64 s3.ready, .int .i64 s3.opn, .int .i64 s3.close] ([s3.ready, s3.opn, s3.close] : List Int) := (RCs.cons (d := [.int .i64 s3.ready]) rfl rfl (RCs.cons (d := [.int .i64 s3.opn]) rfl rfl (RCs.cons (d := [.int .i64 s3.close]) rfl rfl RCs.nil)))
  refine wl_on (t := 7) rfl rfl ?_
  obtain ⟨m19, hm20, hS21, hr22, back23⟩ := hS17.lend .here hrc18 RInt.mono (by decide)
  have le24 := hm20
  obtain ⟨r25, hq26, hM⟩ := bnd_ok hM
  refine wl_call ent38 (vals := [.slice _ _ _]) rfl (cg38 hS21 hr22 hq26) ?_
  rintro _ w28 ⟨rfl, hS29⟩
  have hS30 := back23 _ _ hS29
  refine wl_on (t := 7) rfl rfl ?_
  refine wl_h hS30.toHeld (r_not (b := _) rfl) <| wl_h hS30.toHeld (r_pick_f rfl (v := .bool _) rfl) <| wl_h hS30.toHeld (r_move (v := .bool _) rfl) <| wl_split rfl (c := _) (t := 18) (fun h31 => ?_) (fun h31 => ?_)
  ·replace hM := bif_t h31 hM
   refine wl_off (t := 18) (b := true) rfl rfl rfl ?_
   refine wl_off (t := 18) (b := true) rfl rfl rfl ?_
   refine wl_off (t := 18) (b := true) rfl rfl rfl ?_
   refine wl_off (t := 18) (b := true) rfl rfl rfl ?_
   refine wl_h hS30.toHeld (r_pick_t rfl (v := .bool _) rfl) <| wl_h hS30.toHeld (r_move (v := .bool _) rfl) <| wl_off (t := 24) (b := true) rfl rfl rfl ?_
   refine wl_off (t := 24) (b := true) rfl rfl rfl ?_
   refine wl_off (t := 24) (b := true) rfl rfl rfl ?_
   refine wl_off (t := 24) (b := true) rfl rfl rfl ?_
   refine wl_off (t := 24) (b := true) rfl rfl rfl ?_
   refine wl_h hS30.toHeld (r_pick_t rfl (v := .bool _) rfl) <| wl_h hS30.toHeld (r_assign (v := .bool _) rfl) <| wl_nil <| c_ret <| ret_tmp (t := 2) rfl (v := .bool _) rfl ?_
   obtain rfl := some_eq hM
   have hS32 := hS30.weaken (.cons _ (.cons _ (.refl _)))
   exact ⟨rfl, hS32⟩
  ·replace hM := bif_f h31 hM
   refine wl_on (t := 18) rfl rfl ?_
   refine wl_h hS30.toHeld (r_fieldAddr fld34_4 (b := _) (o := _) rfl) <| wl_on (t := 18) rfl rfl ?_
   refine wl_h hS30.toHeld (r_box ty3 (k := 4) (.there .here) rfl rfl rfl (v := .int .i64 _) rfl) <| wl_on (t := 18) rfl rfl ?_
   obtain ⟨r33, hq34, hM⟩ := bnd_ok hM
   refine wl_call ent33 (vals := [.int .i64 _, .int .i64 _, .int .i64 _]) rfl (cg33 hS30 hq34) ?_
   rintro _ w36 ⟨rfl, hS37⟩
   refine wl_on (t := 18) rfl rfl ?_
   refine wl_h hS37.toHeld (r_not (b := _) rfl) <| wl_h hS37.toHeld (r_pick_f rfl (v := .bool _) rfl) <| wl_h hS37.toHeld (r_move (v := .bool _) rfl) <| wl_split rfl (c := _) (t := 24) (fun h38 => ?_) (fun h38 => ?_)
   ·replace hM := bif_t h38 hM
    refine wl_off (t := 24) (b := true) rfl rfl rfl ?_
    refine wl_off (t := 24) (b := true) rfl rfl rfl ?_
    refine wl_off (t := 24) (b := true) rfl rfl rfl ?_
    refine wl_off (t := 24) (b := true) rfl rfl rfl ?_
    refine wl_off (t := 24) (b := true) rfl rfl rfl ?_
    refine wl_h hS37.toHeld (r_pick_t rfl (v := .bool _) rfl) <| wl_h hS37.toHeld (r_assign (v := .bool _) rfl) <| wl_nil <| c_ret <| ret_tmp (t := 2) rfl (v := .bool _) rfl ?_
    obtain rfl := some_eq hM
    have hS39 := hS37.weaken (.cons _ (.cons _ (.refl _)))
    exact ⟨rfl, hS39⟩
   ·replace hM := bif_f h38 hM
    refine wl_on (t := 24) rfl rfl ?_
    refine wl_h hS37.toHeld (r_fieldAddr fld34_2 (b := _) (o := _) rfl) <| wl_on (t := 24) rfl rfl ?_
    refine wl_h hS37.toHeld (r_box ty3 (k := 2) (.there .here) rfl rfl rfl (v := .int .i64 _) rfl) <| wl_on (t := 24) rfl rfl ?_
    refine wl_h hS37.toHeld (r_fieldAddr fld34_3 (b := _) (o := _) rfl) <| wl_on (t := 24) rfl rfl ?_
    refine wl_h hS37.toHeld (r_box ty3 (k := 3) (.there .here) rfl rfl rfl (v := .int .i64 _) rfl) <| wl_on (t := 24) rfl rfl ?_
    refine wl_h hS37.toHeld (r_gtr (a := _) (b := _) rfl rfl) <| wl_h hS37.toHeld (r_pick_f rfl (v := .bool _) rfl) <| wl_h hS37.toHeld (r_assign (v := .bool _) rfl) <| wl_nil <| c_ret <| ret_tmp (t := 2) rfl (v := .bool _) rfl ?_
    obtain rfl := some_eq hM
    have hS40 := hS37.weaken (.cons _ (.cons _ (.refl _)))
    exact ⟨rfl, hS40⟩

theorem cg41 {m : Mem} {L : List Atom} {w : World} {n1 : Int} (hS : St w m L)  {fuel : Nat} {r : Bool} (hM : mg41 fuel n1 = some r) : Calls P0 41 [.int .i64 n1].toArray w (Ret fun v w' => v = .bool r ∧ St w' m (L)) := by
 rw [mg41] at hM
 refine enter Try.func41 rfl Try.ntmps41 (Nat.le_of_ble_eq_true rfl) ?_
 refine c_seq <| c_region <| wl_h hS.toHeld (r_assign (v := .bool _) rfl) <| wl_nil <| c_seq <| c_region <| wl_h hS.toHeld (r_move (v := .int .i64 _) rfl) ?_
 obtain ⟨r2, hq3, hM⟩ := bnd_ok hM
 refine wl_call ent33 (vals := [.int .i64 _, .int .i64 _, .int .i64 _]) rfl (cg33 hS hq3) ?_
 rintro _ w5 ⟨rfl, hS6⟩
 refine wl_h hS6.toHeld (r_not (b := _) rfl) <| wl_h hS6.toHeld (r_assign (v := .bool _) rfl) <| wl_nil <| c_ret <| ret_tmp (t := 2) rfl (v := .bool _) rfl ?_
 obtain rfl := some_eq hM
 exact ⟨rfl, hS6⟩

theorem cg18 {m : Mem} {L : List Atom} {w : World} {cs1 : List Value} {f3 : Fleet} (hS : St w m L) (hx2 : RFleet m cs1 f3) {fuel : Nat} {r : Int} (hM : mg18 fuel f3 = some r) : Calls P0 18 [.agg cs1.toArray].toArray w (Ret fun v w' => v = .int .i64 r ∧ St w' m (L)) := by
 rw [mg18] at hM
 have hk12 := hx2
 obtain ⟨a4, n5, c6, a8, n9, c10, rfl, hr7, hr11⟩ := hx2
 obtain rfl := hr7.1
 obtain rfl := hr11.1
 refine enter Try.func18 rfl Try.ntmps18 (Nat.le_of_ble_eq_true rfl) ?_
 refine c_seq <| c_region <| wl_box hS (v := .agg #[.slice _ _ _, .slice _ _ _, .int .i64 _, .int .i64 _, .int .i64 _]) rfl (cs := [.slice _ _ _, .slice _ _ _, .int .i64 _, .int .i64 _, .int .i64 _]) rfl ?_
 intro b13 w14 hS15
 refine wl_h hS15.toHeld (r_assign (v := .int .i64 _) rfl) <| wl_nil <| c_seq <| c_seq <| c_region <| wl_h hS15.toHeld (r_fieldAddr fld26_0 (b := _) (o := _) rfl) ?_
 refine wl_h hS15.toHeld (r_box ty23 (k := 0) .here rfl rfl rfl (v := .slice _ _ _) rfl) <| wl_h hS15.toHeld (r_len Try.underlying23 (a := _) (n := _) (c := _) rfl) ?_
 obtain ⟨r16, hq17, hM⟩ := bnd_ok hM
 refine wl_call ent33 (vals := [.int .i64 _, .int .i64 _, .int .i64 _]) rfl (cg33 hS15 hq17) ?_
 rintro _ w19 ⟨rfl, hS20⟩
 refine wl_h hS20.toHeld (r_not (b := _) rfl) <| wl_nil <| c_cond (c := _) rfl (fun h21 => ?_) (fun h21 => ?_)
 ·replace hM := bif_t h21 hM
  refine c_seq <| c_region <| wl_h hS20.toHeld (r_assign (v := .int .i64 _) rfl) <| wl_nil <| c_ret <| ret_tmp (t := 2) rfl (v := .int .i64 _) rfl ?_
  obtain rfl := some_eq hM
  have hS22 := hS20.weaken (.cons _ (.refl _))
  exact ⟨rfl, hS22⟩
 ·replace hM := bif_f h21 hM
  refine c_skip <| c_seq <| c_seq <| c_region <| wl_h hS20.toHeld (r_fieldAddr fld26_2 (b := _) (o := _) rfl) ?_
  refine wl_h hS20.toHeld (r_box ty3 (k := 2) .here rfl rfl rfl (v := .int .i64 _) rfl) ?_
  obtain ⟨r23, hq24, hM⟩ := bnd_ok hM
  refine wl_call ent33 (vals := [.int .i64 _, .int .i64 _, .int .i64 _]) rfl (cg33 hS20 hq24) ?_
  rintro _ w26 ⟨rfl, hS27⟩
  refine wl_h hS27.toHeld (r_not (b := _) rfl) <| wl_h hS27.toHeld (r_move (v := .bool _) rfl) <| wl_split rfl (c := _) (t := 14) (fun h28 => ?_) (fun h28 => ?_)
  ·replace hM := bif_t h28 hM
   refine wl_off (t := 14) (b := true) rfl rfl rfl ?_
   refine wl_off (t := 14) (b := true) rfl rfl rfl ?_
   refine wl_off (t := 14) (b := true) rfl rfl rfl ?_
   refine wl_off (t := 14) (b := true) rfl rfl rfl ?_
   refine wl_off (t := 14) (b := true) rfl rfl rfl ?_
   refine wl_off (t := 14) (b := true) rfl rfl rfl ?_
   refine wl_off (t := 14) (b := true) rfl rfl rfl ?_
   refine wl_h hS27.toHeld (r_pick_t rfl (v := .bool _) rfl) <| wl_h hS27.toHeld (r_move (v := .bool _) rfl) <| wl_off (t := 23) (b := true) rfl rfl rfl ?_
   refine wl_off (t := 23) (b := true) rfl rfl rfl ?_
   refine wl_off (t := 23) (b := true) rfl rfl rfl ?_
   refine wl_h hS27.toHeld (r_pick_t rfl (v := .bool _) rfl) <| wl_nil <| c_true rfl <| c_seq <| c_region <| wl_h hS27.toHeld (r_assign (v := .int .i64 _) rfl) ?_
   refine wl_nil <| c_ret <| ret_tmp (t := 2) rfl (v := .int .i64 _) rfl ?_
   obtain rfl := some_eq hM
   have hS29 := hS27.weaken (.cons _ (.refl _))
   exact ⟨rfl, hS29⟩
  ·replace hM := bif_f h28 hM
   refine wl_on (t := 14) rfl rfl ?_
   refine wl_h hS27.toHeld (r_fieldAddr fld26_3 (b := _) (o := _) rfl) <| wl_on (t := 14) rfl rfl ?_
   refine wl_h hS27.toHeld (r_box ty3 (k := 3) .here rfl rfl rfl (v := .int .i64 _) rfl) <| wl_on (t := 14) rfl rfl ?_
   refine wl_h hS27.toHeld (r_fieldAddr fld26_4 (b := _) (o := _) rfl) <| wl_on (t := 14) rfl rfl ?_
   refine wl_h hS27.toHeld (r_box ty3 (k := 4) .here rfl rfl rfl (v := .int .i64 _) rfl) <| wl_on (t := 14) rfl rfl ?_
   refine wl_buildSlice Try.underlying35 ty3 rfl (by decide) (by decide) hS27 (ps := [(0, [.int .i64 _]), (1, [.int .i64 _])]) rfl rfl (cs := [.int .i64 _, .int .i64 _]) rfl rfl (by decide) ?_
   intro b31 w32 hS33
   have hrc34 : RCs 1 RInt m [.int .i64 f3.start, .int .i64 f3.back] ([f3.start, f3.back] : List Int) := (RCs.cons (d := [.int .i64 f3.start]) rfl rfl (RCs.cons (d := [.int .i64 f3.back]) rfl rfl RCs.nil))
   refine wl_on (t := 14) rfl rfl ?_
   obtain ⟨m35, hm36, hS37, hr38, back39⟩ := hS33.lend .here hrc34 RInt.mono (by decide)
   have le40 := hm36
   obtain ⟨r41, hq42, hM⟩ := bnd_ok hM
   refine wl_call ent38 (vals := [.slice _ _ _]) rfl (cg38 hS37 hr38 hq42) ?_
   rintro _ w44 ⟨rfl, hS45⟩
   have hS46 := back39 _ _ hS45
   refine wl_on (t := 14) rfl rfl ?_
   refine wl_h hS46.toHeld (r_not (b := _) rfl) <| wl_h hS46.toHeld (r_pick_f rfl (v := .bool _) rfl) <| wl_h hS46.toHeld (r_move (v := .bool _) rfl) <| wl_split rfl (c := _) (t := 23) (fun h47 => ?_) (fun h47 => ?_)
   ·replace hM := bif_t h47 hM
    refine wl_off (t := 23) (b := true) rfl rfl rfl ?_
    refine wl_off (t := 23) (b := true) rfl rfl rfl ?_
    refine wl_off (t := 23) (b := true) rfl rfl rfl ?_
    refine wl_h hS46.toHeld (r_pick_t rfl (v := .bool _) rfl) <| wl_nil <| c_true rfl <| c_seq <| c_region <| wl_h hS46.toHeld (r_assign (v := .int .i64 _) rfl) ?_
    refine wl_nil <| c_ret <| ret_tmp (t := 2) rfl (v := .int .i64 _) rfl ?_
    obtain rfl := some_eq hM
    have hS48 := hS46.weaken (.cons _ (.cons _ (.refl _)))
    exact ⟨rfl, hS48⟩
   ·replace hM := bif_f h47 hM
    refine wl_on (t := 23) rfl rfl ?_
    refine wl_h hS46.toHeld (r_fieldAddr fld26_0 (b := _) (o := _) rfl) <| wl_on (t := 23) rfl rfl ?_
    refine wl_h hS46.toHeld (r_box ty23 (k := 0) (.there .here) rfl rfl rfl (v := .slice _ _ _) rfl) <| wl_on (t := 23) rfl rfl ?_
    obtain ⟨r49, hq50, hM⟩ := bnd_ok hM
    refine wl_call ent39 (vals := [.slice _ _ _, .func (.func 40) #[] #[]]) rfl (cg39 hS46 hr7 (q6 := (mg40 fuel)) (caps8 := []) ent40 (fun m' E w' cs0 x0 r hle hSt h0 hq => cg40 hSt h0 hq) hq50) ?_
    rintro _ w52 ⟨rfl, hS53⟩
    refine wl_h hS53.toHeld (r_pick_f rfl (v := .bool _) rfl) <| wl_nil <| c_cond (c := _) rfl (fun h54 => ?_) (fun h54 => ?_)
    ·replace hM := bif_t h54 hM
     refine c_seq <| c_region <| wl_h hS53.toHeld (r_assign (v := .int .i64 _) rfl) <| wl_nil <| c_ret <| ret_tmp (t := 2) rfl (v := .int .i64 _) rfl ?_
     obtain rfl := some_eq hM
     have hS55 := hS53.weaken (.cons _ (.cons _ (.refl _)))
     exact ⟨rfl, hS55⟩
    ·replace hM := bif_f h54 hM
     refine c_skip <| c_seq <| c_seq <| c_region <| wl_h hS53.toHeld (r_fieldAddr fld26_1 (b := _) (o := _) rfl) ?_
     refine wl_h hS53.toHeld (r_box ty24 (k := 1) (.there .here) rfl rfl rfl (v := .slice _ _ _) rfl) <| wl_h hS53.toHeld (r_len Try.underlying24 (a := _) (n := _) (c := _) rfl) <| wl_h hS53.toHeld (r_fieldAddr fld26_0 (b := _) (o := _) rfl) <| wl_h hS53.toHeld (r_box ty23 (k := 0) (.there .here) rfl rfl rfl (v := .slice _ _ _) rfl) <| wl_h hS53.toHeld (r_len Try.underlying23 (a := _) (n := _) (c := _) rfl) ?_
     obtain ⟨hc56, hM⟩ := chk_ok hM
     refine wl_h hS53.toHeld (r_add (a := _) (b := _) rfl rfl (ok_lo hc56) (ok_hi hc56)) <| wl_h hS53.toHeld (r_neq (a := _) (b := _) rfl rfl) <| wl_nil <| c_cond (c := _) rfl (fun h57 => ?_) (fun h57 => ?_)
     ·replace hM := bif_t h57 hM
      refine c_seq <| c_region <| wl_h hS53.toHeld (r_assign (v := .int .i64 _) rfl) <| wl_nil <| c_ret <| ret_tmp (t := 2) rfl (v := .int .i64 _) rfl ?_
      obtain rfl := some_eq hM
      have hS58 := hS53.weaken (.cons _ (.cons _ (.refl _)))
      exact ⟨rfl, hS58⟩
     ·replace hM := bif_f h57 hM
      refine c_skip <| c_seq <| c_seq <| c_region <| wl_h hS53.toHeld (r_fieldAddr fld26_1 (b := _) (o := _) rfl) ?_
      refine wl_h hS53.toHeld (r_box ty24 (k := 1) (.there .here) rfl rfl rfl (v := .slice _ _ _) rfl) <| wl_h hS53.toHeld (r_len Try.underlying24 (a := _) (n := _) (c := _) rfl) <| wl_h hS53.toHeld (r_move (v := .int .i64 _) rfl) <| wl_nil <| c_block ?_
      have hS59 := hS53.weaken (.cons _ (.cons_cons _ (.refl _)))
      refine c_loop (fun k f w => ∃ (x97 : Int), mg18_l0 fuel f3 k x97 = some r ∧ St w m (.box b13 26 [.slice a4 f3.stops.length c6, .slice a8 f3.minutes.length c10, .int .i64 f3.cap, .int .i64 f3.start, .int .i64 f3.back] :: L) ∧ f 1 = .pointer (some ⟨b13, 0, none⟩) ∧ f 37 = .slice a8 f3.minutes.length c10 ∧ f 38 = .int .i64 ((f3.minutes.length : Nat) : Int) ∧ f 39 = .int .i64 x97) fuel ⟨0, hM, hS59, rfl, rfl, rfl, rfl⟩ ?_
      rintro k_0 f98 w99 ⟨x97, hM, hS101, e102, e103, e104, e105⟩
      refine c_know (t := 1) e102 <| c_know (t := 37) e103 <| c_know (t := 38) e104 <| c_know (t := 39) e105 ?_
      clear e102 e103 e104 e105
      rcases k_0 with _ | k_0
      · exact none_ne hM
      rw [mg18_l0] at hM
      refine c_seq <| c_region <| wl_h hS101.toHeld (r_lss (a := _) (b := _) rfl rfl) <| wl_nil <| c_seq <| c_cond (c := _) rfl (fun h106 => ?_) (fun h106 => ?_)
      ·replace hM := bif_t h106 hM
       refine c_skip <| c_seq <| c_block <| c_seq <| c_region <| wl_h hS101.toHeld (r_move (v := .int .i64 _) rfl) ?_
       obtain ⟨x107, hx108, h109, h110, hM⟩ := getK_ok hM
       obtain ⟨b111, o112, rfl⟩ := RSl.elem_a hr11 hx108
       obtain ⟨cs113, hI114, hR115⟩ := RSl.elem_at hr11 hx108
       obtain ⟨a116, n117, c118, rfl, hr119⟩ := hR115
       obtain rfl := hr119.1
       refine wl_h hS101.toHeld (r_indexAddr Try.underlying24 ty35 (b := _) (o := _) (n := _) (c := _) (i := x97) rfl rfl h109 (RSl.lt hr11 h110)) <| wl_h hS101.toHeld (r_imm ty35 (k := 0) hI114 rfl rfl rfl (v := .slice _ _ _) rfl) <| wl_h hS101.toHeld (r_assign (v := .int .i64 _) rfl) <| wl_h hS101.toHeld (r_assign (v := .slice _ _ _) rfl) <| wl_nil <| c_seq <| c_region <| wl_h hS101.toHeld (r_move (v := .slice _ _ _) rfl) ?_
       refine wl_h hS101.toHeld (r_len Try.underlying35 (a := _) (n := _) (c := _) rfl) <| wl_h hS101.toHeld (r_fieldAddr fld26_1 (b := _) (o := _) rfl) <| wl_h hS101.toHeld (r_box ty24 (k := 1) .here rfl rfl rfl (v := .slice _ _ _) rfl) <| wl_h hS101.toHeld (r_len Try.underlying24 (a := _) (n := _) (c := _) rfl) <| wl_h hS101.toHeld (r_neq (a := _) (b := _) rfl rfl) ?_
       refine wl_h hS101.toHeld (r_move (v := .bool _) rfl) <| wl_split rfl (c := _) (t := 50) (fun h120 => ?_) (fun h120 => ?_)
       ·replace hM := bif_t h120 hM
        refine wl_off (t := 50) (b := true) rfl rfl rfl ?_
        refine wl_off (t := 50) (b := true) rfl rfl rfl ?_
        refine wl_off (t := 50) (b := true) rfl rfl rfl ?_
        refine wl_off (t := 50) (b := true) rfl rfl rfl ?_
        refine wl_off (t := 50) (b := true) rfl rfl rfl ?_
        refine wl_h hS101.toHeld (r_pick_t rfl (v := .bool _) rfl) <| wl_h hS101.toHeld (r_move (v := .bool _) rfl) <| wl_off (t := 57) (b := true) rfl rfl rfl ?_
        refine wl_off (t := 57) (b := true) rfl rfl rfl ?_
        refine wl_h hS101.toHeld (r_pick_t rfl (v := .bool _) rfl) <| wl_nil <| c_true rfl <| c_seq <| c_region <| wl_h hS101.toHeld (r_assign (v := .int .i64 _) rfl) ?_
        refine wl_nil <| c_ret <| q_retb <| q_retl <| q_retb ?_
        refine ret_tmp (t := 2) rfl (v := .int .i64 _) rfl ?_
        obtain rfl := some_eq hM
        have hS121 := hS101.weaken (.cons _ (.refl _))
        exact ⟨rfl, hS121⟩
       ·replace hM := bif_f h120 hM
        refine wl_on (t := 50) rfl rfl ?_
        refine wl_h hS101.toHeld (r_move (v := .slice _ _ _) rfl) <| wl_on (t := 50) rfl rfl ?_
        refine wl_h hS101.toHeld (r_move (v := .int .i64 _) rfl) <| wl_on (t := 50) rfl rfl ?_
        obtain ⟨x122, hx123, h124, h125, hM⟩ := getK_ok hM
        obtain ⟨b126, o127, rfl⟩ := RSl.elem_a hr119 hx123
        obtain ⟨cs128, hI129, hR130⟩ := RSl.elem_at hr119 hx123
        obtain rfl := hR130
        refine wl_h hS101.toHeld (r_indexAddr Try.underlying35 ty3 (b := _) (o := _) (n := _) (c := _) (i := x97) rfl rfl h124 (RSl.lt hr119 h125)) <| wl_on (t := 50) rfl rfl ?_
        refine wl_h hS101.toHeld (r_imm ty3 (k := 0) hI129 rfl rfl rfl (v := .int .i64 _) rfl) <| wl_on (t := 50) rfl rfl ?_
        refine wl_h hS101.toHeld (r_neq (a := _) (b := _) rfl rfl) <| wl_h hS101.toHeld (r_pick_f rfl (v := .bool _) rfl) <| wl_h hS101.toHeld (r_move (v := .bool _) rfl) <| wl_split rfl (c := _) (t := 57) (fun h131 => ?_) (fun h131 => ?_)
        ·replace hM := bif_t h131 hM
         refine wl_off (t := 57) (b := true) rfl rfl rfl ?_
         refine wl_off (t := 57) (b := true) rfl rfl rfl ?_
         refine wl_h hS101.toHeld (r_pick_t rfl (v := .bool _) rfl) <| wl_nil <| c_true rfl <| c_seq <| c_region <| wl_h hS101.toHeld (r_assign (v := .int .i64 _) rfl) ?_
         refine wl_nil <| c_ret <| q_retb <| q_retl <| q_retb ?_
         refine ret_tmp (t := 2) rfl (v := .int .i64 _) rfl ?_
         obtain rfl := some_eq hM
         have hS132 := hS101.weaken (.cons _ (.refl _))
         exact ⟨rfl, hS132⟩
        ·replace hM := bif_f h131 hM
         refine wl_on (t := 57) rfl rfl ?_
         refine wl_h hS101.toHeld (r_move (v := .slice _ _ _) rfl) <| wl_on (t := 57) rfl rfl ?_
         obtain ⟨r133, hq134, hM⟩ := bnd_ok hM
         refine wl_call ent31 (vals := [.slice _ _ _, .func (.func 41) #[] #[]]) rfl (cg31 hS101 hr119 (q6 := (mg41 fuel)) (caps8 := []) ent41 (fun m' E w' x0 r hle hSt  hq => cg41 hSt  hq) hq134) ?_
         rintro _ w136 ⟨rfl, hS137⟩
         refine wl_h hS137.toHeld (r_pick_f rfl (v := .bool _) rfl) <| wl_nil <| c_cond (c := _) rfl (fun h138 => ?_) (fun h138 => ?_)
         ·replace hM := bif_t h138 hM
          refine c_seq <| c_region <| wl_h hS137.toHeld (r_assign (v := .int .i64 _) rfl) <| wl_nil <| c_ret <| q_retb ?_
          refine q_retl <| q_retb <| ret_tmp (t := 2) rfl (v := .int .i64 _) rfl ?_
          obtain rfl := some_eq hM
          have hS139 := hS137.weaken (.cons _ (.refl _))
          exact ⟨rfl, hS139⟩
         ·replace hM := bif_f h138 hM
          refine c_skip <| c_nil <| q_norm <| c_region ?_
          obtain ⟨hc140, hM⟩ := chk_ok hM
          refine wl_h hS137.toHeld (r_add (a := _) (b := _) rfl rfl (ok_lo hc140) (ok_hi hc140)) <| wl_h hS137.toHeld (r_move (v := .int .i64 _) rfl) <| wl_nil <| c_nil <| q_loop ?_
          exact ⟨k_0, Nat.lt_succ_self _, x97 + 1, hM, hS137, rfl, rfl, rfl, rfl⟩
      ·replace hM := bif_f h106 hM
       refine c_exit <| q_loopx <| q_hit <| c_seq <| c_region <| wl_h hS101.toHeld (r_assign (v := .int .i64 _) rfl) ?_
       refine wl_nil <| c_ret <| ret_tmp (t := 2) rfl (v := .int .i64 _) rfl ?_
       obtain rfl := some_eq hM
       have hS141 := hS101.weaken (.cons _ (.refl _))
       exact ⟨rfl, hS141⟩

theorem cg88 {m : Mem} {L : List Atom} {w : World} {x1 : Int} (hS : St w m L)  {fuel : Nat} {r : Bool} (hM : mg88 fuel x1 = some r) : Calls P0 88 [.int .i64 x1].toArray w (Ret fun v w' => v = .bool r ∧ St w' m (L)) := by
 rw [mg88] at hM
 refine enter Try.func88 rfl Try.ntmps88 (Nat.le_of_ble_eq_true rfl) ?_
 refine c_seq <| c_region <| wl_h hS.toHeld (r_assign (v := .bool _) rfl) <| wl_nil <| c_seq <| c_region <| wl_h hS.toHeld (r_move (v := .int .i64 _) rfl) ?_
 refine wl_h hS.toHeld (r_move (v := .int .i64 _) rfl) <| wl_h hS.toHeld (r_neq (a := _) (b := _) rfl rfl) <| wl_h hS.toHeld (r_assign (v := .bool _) rfl) <| wl_nil <| c_ret <| ret_tmp (t := 2) rfl (v := .bool _) rfl ?_
 obtain rfl := some_eq hM
 exact ⟨rfl, hS⟩

theorem cg96 {m : Mem} {L : List Atom} {w : World} {x1 : Int} {y2 : Int} (hS : St w m L)  {fuel : Nat} {r : Bool} (hM : mg96 fuel x1 y2 = some r) : Calls P0 96 [.int .i64 x1, .int .i64 y2].toArray w (Ret fun v w' => v = .bool r ∧ St w' m (L)) := by
 rw [mg96] at hM
 refine enter Try.func96 rfl Try.ntmps96 (Nat.le_of_ble_eq_true rfl) ?_
 refine c_seq <| c_region <| wl_h hS.toHeld (r_assign (v := .bool _) rfl) <| wl_nil <| c_seq <| c_region <| wl_h hS.toHeld (r_move (v := .int .i64 _) rfl) ?_
 obtain ⟨r3, hq4, hM⟩ := bnd_ok hM
 refine wl_call ent88 (vals := [.int .i64 _]) rfl (cg88 hS hq4) ?_
 rintro _ w6 ⟨rfl, hS7⟩
 refine wl_h hS7.toHeld (r_move (v := .bool _) rfl) <| wl_split rfl (c := _) (t := 7) (fun h8 => ?_) (fun h8 => ?_)
 ·replace hM := bif_t h8 hM
  refine wl_on (t := 7) rfl rfl ?_
  refine wl_h hS7.toHeld (r_move (v := .int .i64 _) rfl) <| wl_on (t := 7) rfl rfl ?_
  obtain ⟨r9, hq10, hM⟩ := bnd_ok hM
  refine wl_call ent88 (vals := [.int .i64 _]) rfl (cg88 hS7 hq10) ?_
  rintro _ w12 ⟨rfl, hS13⟩
  refine wl_on (t := 7) rfl rfl ?_
  refine wl_h hS13.toHeld (r_not (b := _) rfl) <| wl_h hS13.toHeld (r_pick_t rfl (v := .bool _) rfl) <| wl_h hS13.toHeld (r_move (v := .bool _) rfl) <| wl_split rfl (c := _) (t := 12) (fun h14 => ?_) (fun h14 => ?_)
  ·replace hM := bif_t h14 hM
   refine wl_off (t := 12) (b := true) rfl rfl rfl ?_
   refine wl_off (t := 12) (b := true) rfl rfl rfl ?_
   refine wl_off (t := 12) (b := true) rfl rfl rfl ?_
   refine wl_h hS13.toHeld (r_pick_t rfl (v := .bool _) rfl) <| wl_h hS13.toHeld (r_assign (v := .bool _) rfl) <| wl_nil <| c_ret <| ret_tmp (t := 4) rfl (v := .bool _) rfl ?_
   obtain rfl := some_eq hM
   exact ⟨rfl, hS13⟩
  ·replace hM := bif_f h14 hM
   refine wl_on (t := 12) rfl rfl ?_
   refine wl_h hS13.toHeld (r_move (v := .int .i64 _) rfl) <| wl_on (t := 12) rfl rfl ?_
   refine wl_h hS13.toHeld (r_move (v := .int .i64 _) rfl) <| wl_on (t := 12) rfl rfl ?_
   refine wl_h hS13.toHeld (r_lss (a := _) (b := _) rfl rfl) <| wl_h hS13.toHeld (r_pick_f rfl (v := .bool _) rfl) <| wl_h hS13.toHeld (r_assign (v := .bool _) rfl) <| wl_nil <| c_ret <| ret_tmp (t := 4) rfl (v := .bool _) rfl ?_
   obtain rfl := some_eq hM
   exact ⟨rfl, hS13⟩
 ·replace hM := bif_f h8 hM
  refine wl_off (t := 7) (b := false) rfl rfl rfl ?_
  refine wl_off (t := 7) (b := false) rfl rfl rfl ?_
  refine wl_off (t := 7) (b := false) rfl rfl rfl ?_
  refine wl_h hS7.toHeld (r_pick_f rfl (v := .bool _) rfl) <| wl_h hS7.toHeld (r_move (v := .bool _) rfl) <| wl_on (t := 12) rfl rfl ?_
  refine wl_h hS7.toHeld (r_move (v := .int .i64 _) rfl) <| wl_on (t := 12) rfl rfl ?_
  refine wl_h hS7.toHeld (r_move (v := .int .i64 _) rfl) <| wl_on (t := 12) rfl rfl ?_
  refine wl_h hS7.toHeld (r_lss (a := _) (b := _) rfl rfl) <| wl_h hS7.toHeld (r_pick_f rfl (v := .bool _) rfl) <| wl_h hS7.toHeld (r_assign (v := .bool _) rfl) <| wl_nil <| c_ret <| ret_tmp (t := 4) rfl (v := .bool _) rfl ?_
  obtain rfl := some_eq hM
  exact ⟨rfl, hS7⟩

theorem cg48 {m : Mem} {L : List Atom} {w : World} (hS : St w m L) {a1 : Option Addr} {n2 c3 : Nat} {s5 : List Int} (hr4 : RSl 1 RInt m a1 n2 c3 s5) : Calls P0 48 [.slice a1 n2 c3].toArray w (Ret fun v w' => ∃ b, v = .func (.func 69) #[] #[.pointer (some ⟨b, 0, none⟩)] ∧ St w' m (.box b 35 [.slice a1 n2 c3] :: L)) := by
 obtain rfl := hr4.1
 refine enter Try.func48 rfl Try.ntmps48 (Nat.le_of_ble_eq_true rfl) ?_
 refine c_seq <| c_region <| wl_box hS (v := .slice _ _ _) rfl (cs := [.slice _ _ _]) rfl ?_
 intro b6 w7 hS8
 refine wl_h hS8.toHeld (r_assign (v := .nilFunc) rfl) <| wl_nil <| c_seq <| c_region <| wl_h hS8.toHeld (r_makeFunc (vs := [.pointer (some ⟨_, _, none⟩)]) rfl) ?_
 refine wl_h hS8.toHeld (r_assign (v := .func (.func 69) #[] #[.pointer (some ⟨_, _, none⟩)]) rfl) <| wl_nil <| c_ret <| ret_tmp (t := 2) rfl (v := .func (.func 69) #[] #[.pointer (some ⟨_, _, none⟩)]) rfl ?_
 exact ⟨_, rfl, hS8⟩

theorem cg50 {m : Mem} {L : List Atom} {w : World} {cs1 : List Value} {f3 : Fleet} {a13 : Option Addr} {n14 c15 : Nat} {stops17 : List Int} (hS : St w m L) (hx2 : RFleet m cs1 f3) (hr16 : RSl 1 RInt m a13 n14 c15 stops17) {fuel : Nat} {r : Int} (hM : mg50 fuel f3 stops17 = some r) : Calls P0 50 [.agg cs1.toArray, .slice a13 n14 c15].toArray w (Ret fun v w' => v = .int .i64 r ∧ St w' m (L)) := by
 rw [mg50] at hM
 have hk12 := hx2
 obtain ⟨a4, n5, c6, a8, n9, c10, rfl, hr7, hr11⟩ := hx2
 obtain rfl := hr7.1
 obtain rfl := hr11.1
 obtain rfl := hr16.1
 refine enter Try.func50 rfl Try.ntmps50 (Nat.le_of_ble_eq_true rfl) ?_
 refine c_seq <| c_region <| wl_box hS (v := .agg #[.slice _ _ _, .slice _ _ _, .int .i64 _, .int .i64 _, .int .i64 _]) rfl (cs := [.slice _ _ _, .slice _ _ _, .int .i64 _, .int .i64 _, .int .i64 _]) rfl ?_
 intro b18 w19 hS20
 refine wl_h hS20.toHeld (r_assign (v := .int .i64 _) rfl) <| wl_nil <| c_seq <| c_region <| wl_h hS20.toHeld (r_assign (v := .int .i64 _) rfl) ?_
 refine wl_nil <| c_seq <| c_seq <| c_region <| wl_h hS20.toHeld (r_move (v := .slice _ _ _) rfl) ?_
 refine wl_h hS20.toHeld (r_len Try.underlying35 (a := _) (n := _) (c := _) rfl) <| wl_h hS20.toHeld (r_move (v := .int .i64 _) rfl) <| wl_nil <| c_block <| c_loop (fun k f w => ∃ (n45 : Int) (x46 : Int), mg50_l0 fuel f3 stops17 k n45 x46 = some r ∧ St w m (.box b18 26 [.slice a4 f3.stops.length c6, .slice a8 f3.minutes.length c10, .int .i64 f3.cap, .int .i64 f3.start, .int .i64 f3.back] :: L) ∧ f 2 = .pointer (some ⟨b18, 0, none⟩) ∧ f 5 = .int .i64 n45 ∧ f 8 = .slice a13 stops17.length c15 ∧ f 9 = .int .i64 ((stops17.length : Nat) : Int) ∧ f 10 = .int .i64 x46) fuel ⟨0, 0, hM, hS20, rfl, rfl, rfl, rfl, rfl⟩ ?_
 rintro k_0 f47 w48 ⟨n45, x46, hM, hS50, e51, e52, e53, e54, e55⟩
 refine c_know (t := 2) e51 <| c_know (t := 5) e52 <| c_know (t := 8) e53 <| c_know (t := 9) e54 <| c_know (t := 10) e55 ?_
 clear e51 e52 e53 e54 e55
 rcases k_0 with _ | k_0
 · exact none_ne hM
 rw [mg50_l0] at hM
 refine c_seq <| c_region <| wl_h hS50.toHeld (r_lss (a := _) (b := _) rfl rfl) <| wl_nil <| c_seq <| c_cond (c := _) rfl (fun h56 => ?_) (fun h56 => ?_)
 ·replace hM := bif_t h56 hM
  refine c_skip <| c_seq <| c_block <| c_seq <| c_region ?_
  obtain ⟨x57, hx58, h59, h60, hM⟩ := getK_ok hM
  obtain ⟨b61, o62, rfl⟩ := RSl.elem_a hr16 hx58
  obtain ⟨cs63, hI64, hR65⟩ := RSl.elem_at hr16 hx58
  obtain rfl := hR65
  refine wl_h hS50.toHeld (r_indexAddr Try.underlying35 ty3 (b := _) (o := _) (n := _) (c := _) (i := x46) rfl rfl h59 (RSl.lt hr16 h60)) <| wl_h hS50.toHeld (r_imm ty3 (k := 0) hI64 rfl rfl rfl (v := .int .i64 _) rfl) <| wl_h hS50.toHeld (r_assign (v := .int .i64 _) rfl) <| wl_nil <| c_region <| wl_h hS50.toHeld (r_move (v := .int .i64 _) rfl) ?_
  refine wl_h hS50.toHeld (r_fieldAddr fld26_0 (b := _) (o := _) rfl) <| wl_h hS50.toHeld (r_box ty23 (k := 0) .here rfl rfl rfl (v := .slice _ _ _) rfl) <| wl_h hS50.toHeld (r_move (v := .int .i64 _) rfl) ?_
  obtain ⟨x66, hx67, h68, h69, hM⟩ := getK_ok hM
  obtain ⟨b70, o71, rfl⟩ := RSl.elem_a hr7 hx67
  obtain ⟨cs72, hI73, hR74⟩ := RSl.elem_at hr7 hx67
  obtain rfl := hR74
  refine wl_h hS50.toHeld (r_indexAddr Try.underlying23 ty34 (b := _) (o := _) (n := _) (c := _) (i := x57) rfl rfl h68 (RSl.lt hr7 h69)) <| wl_h hS50.toHeld (r_fieldAddr fld34_0 (b := _) (o := _) rfl) <| wl_h hS50.toHeld (r_imm ty3 (k := 0) hI73 rfl rfl rfl (v := .int .i64 _) rfl) ?_
  obtain ⟨hc75, hM⟩ := chk_ok hM
  refine wl_h hS50.toHeld (r_add (a := _) (b := _) rfl rfl (ok_lo hc75) (ok_hi hc75)) <| wl_h hS50.toHeld (r_assign (v := .int .i64 _) rfl) <| wl_nil <| c_nil <| q_norm <| c_region ?_
  obtain ⟨hc76, hM⟩ := chk_ok hM
  refine wl_h hS50.toHeld (r_add (a := _) (b := _) rfl rfl (ok_lo hc76) (ok_hi hc76)) <| wl_h hS50.toHeld (r_move (v := .int .i64 _) rfl) <| wl_nil <| c_nil <| q_loop ?_
  exact ⟨k_0, Nat.lt_succ_self _, n45 + x66.load, x46 + 1, hM, hS50, rfl, rfl, rfl, rfl, rfl⟩
 ·replace hM := bif_f h56 hM
  refine c_exit <| q_loopx <| q_hit <| c_seq <| c_region <| wl_h hS50.toHeld (r_move (v := .int .i64 _) rfl) ?_
  refine wl_h hS50.toHeld (r_assign (v := .int .i64 _) rfl) <| wl_nil <| c_ret <| ret_tmp (t := 4) rfl (v := .int .i64 _) rfl ?_
  obtain rfl := some_eq hM
  have hS77 := hS50.weaken (.cons _ (.refl _))
  exact ⟨rfl, hS77⟩

theorem cg69 {σ H : Type} {m : Mem} {M : H → Mem} {F : σ → H → Prop} {A : σ → H → List Atom} {y : σ → Int → Option σ} {l : Nat} (hMm : ∀ s h, F s h → m ≤ M h) (hy : ∀ (E : List Atom) (w : World) (s : σ) (h : H) (x0 : Int) (s' : σ), F s h → St w (M h) (A s h ++ E) → y s x0 = some s' → K.Yields P0 l [.int .i64 x0] w (fun v w' => v = .bool true ∧ ∃ h', F s' h' ∧ St w' (M h') (A s' h' ++ E))) {b1 : Nat} {a3 : Option Addr} {n4 c5 : Nat} {y7 : (List Int)} (hr6 : RSl 1 RInt m a3 n4 c5 y7) (hb2 : ∀ s h, F s h → K.Own (A s h) (.box b1 35 [.slice a3 n4 c5])) {w : World} {s0 : σ} {h0 : H} {E : List Atom} (hF : F s0 h0) (hS : St w (M h0) (A s0 h0 ++ E)) {fuel : Nat} {r : σ} (hM : mg69 fuel y s0 y7 = some r) : Calls P0 69 [.func (.yield l) #[] #[], .pointer (some ⟨b1, 0, none⟩)].toArray w (Ret fun v w' => v = .tuple #[] ∧ ∃ h', F r h' ∧ St w' (M h') (A r h' ++ E)) := by
 rw [mg69] at hM
 obtain rfl := hr6.1
 have hr6c := RSl.mono RInt.mono hr6 (hMm _ _ hF)
 refine enter Try.func69 rfl Try.ntmps69 (Nat.le_of_ble_eq_true rfl) ?_
 refine c_seq <| c_region <| wl_h hS.toHeld (r_box ty35 (k := 0) (K.Own.left (hb2 _ _ hF)) rfl rfl rfl (v := .slice _ _ _) rfl) <| wl_h hS.toHeld (r_len Try.underlying35 (a := _) (n := _) (c := _) rfl) <| wl_h hS.toHeld (r_move (v := .int .i64 _) rfl) ?_
 refine wl_nil <| c_block <| c_loop (fun k f w => ∃ (s47 : σ) (x50 : Int) (h48 : H), mg69_l0 fuel y y7 k s47 x50 = some r ∧ F s47 h48 ∧ St w (M h48) ((A s47 h48 ++ E)) ∧ f 0 = .func (.yield l) #[] #[] ∧ f 5 = .slice a3 y7.length c5 ∧ f 6 = .int .i64 ((y7.length : Nat) : Int) ∧ f 7 = .int .i64 x50) fuel ⟨s0, 0, h0, hM, hF, hS, rfl, rfl, rfl, rfl⟩ ?_
 rintro k_0 f51 w52 ⟨s47, x50, h48, hM, hF49, hS54, e55, e56, e57, e58⟩
 replace hr6c := RSl.mono RInt.mono hr6 (hMm _ _ hF49)
 refine c_know (t := 0) e55 <| c_know (t := 5) e56 <| c_know (t := 6) e57 <| c_know (t := 7) e58 ?_
 clear e55 e56 e57 e58
 rcases k_0 with _ | k_0
 · exact none_ne hM
 rw [mg69_l0] at hM
 refine c_seq <| c_region <| wl_h hS54.toHeld (r_lss (a := _) (b := _) rfl rfl) <| wl_nil <| c_seq <| c_cond (c := _) rfl (fun h59 => ?_) (fun h59 => ?_)
 ·replace hM := bif_t h59 hM
  refine c_skip <| c_seq <| c_block <| c_seq <| c_region ?_
  obtain ⟨x60, hx61, h62, h63, hM⟩ := getK_ok hM
  obtain ⟨b64, o65, rfl⟩ := RSl.elem_a hr6c hx61
  obtain ⟨cs66, hI67, hR68⟩ := RSl.elem_at hr6c hx61
  obtain rfl := hR68
  refine wl_h hS54.toHeld (r_indexAddr Try.underlying35 ty3 (b := _) (o := _) (n := _) (c := _) (i := x50) rfl rfl h62 (RSl.lt hr6c h63)) <| wl_h hS54.toHeld (r_imm ty3 (k := 0) hI67 rfl rfl rfl (v := .int .i64 _) rfl) <| wl_h hS54.toHeld (r_assign (v := .int .i64 _) rfl) <| wl_nil <| c_seq <| c_region <| wl_h hS54.toHeld (r_move (v := .func (.yield l) #[] #[]) rfl) ?_
  refine wl_h hS54.toHeld (r_move (v := .int .i64 _) rfl) ?_
  obtain ⟨s69, hq70, hM⟩ := bnd_ok hM
  refine wl_yield rfl (vals := [.int .i64 _]) rfl (hy E _ _ _ _ _ hF49 hS54 hq70) ?_
  rintro _ w73 ⟨rfl, h71, hF72, hS74⟩
  replace hr6c := RSl.mono RInt.mono hr6 (hMm _ _ hF72)
  refine wl_h hS74.toHeld (r_not (b := _) rfl) <| wl_nil <| c_false rfl <| c_skip <| c_nil <| q_norm <| c_region ?_
  obtain ⟨hc75, hM⟩ := chk_ok hM
  refine wl_h hS74.toHeld (r_add (a := _) (b := _) rfl rfl (ok_lo hc75) (ok_hi hc75)) <| wl_h hS74.toHeld (r_move (v := .int .i64 _) rfl) <| wl_nil <| c_nil <| q_loop ?_
  exact ⟨k_0, Nat.lt_succ_self _, s69, x50 + 1, h71, hM, hF72, hS74, rfl, rfl, rfl, rfl⟩
 ·replace hM := bif_f h59 hM
  refine c_exit <| q_loopx <| q_hit <| c_nil <| end_none rfl ?_
  obtain rfl := some_eq hM
  exact ⟨rfl, h48, hF49, hS54⟩

theorem cg84 {m : Mem} {L : List Atom} {w : World} {b1 : Nat} {a3 : Option Addr} {n4 c5 : Nat} {y7 : (List Int)} (hS : St w m L) (hr6 : RSl 1 RInt m a3 n4 c5 y7) (hb2 : K.Own L (.box b1 35 [.slice a3 n4 c5])) {fuel : Nat} {r : (List Int)} (hM : mg84 fuel y7 = some r) : Calls P0 84 [.slice none 0 0, .func (.func 69) #[] #[.pointer (some ⟨b1, 0, none⟩)]].toArray w (Ret fun v w' => ∃ (a0 : Option Addr) (n0 : Nat) (c0 : Nat) (cs0 : List Value), v = .slice a0 n0 c0 ∧ n0 = r.length ∧ RCs 1 RInt m cs0 r ∧ St w' m (.row (.slice a0 n0 c0) 3 1 cs0 :: L)) := by
 rw [mg84] at hM
 obtain rfl := hr6.1
 refine enter Try.func84 rfl Try.ntmps84 (Nat.le_of_ble_eq_true rfl) ?_
 refine c_seq <| c_region <| wl_box hS (v := .slice _ _ _) rfl (cs := [.slice _ _ _]) rfl ?_
 intro b8 w9 hS10
 refine wl_h hS10.toHeld (r_assign (v := .slice _ _ _) rfl) <| wl_nil <| c_seq <| c_seq <| c_region <| wl_h hS10.toHeld (r_move (v := .func (.func 69) #[] #[.pointer (some ⟨_, _, none⟩)]) rfl) ?_
 refine wl_nil <| c_block ?_
 have hS77 := hS10.nilRow 3 1
 have hrc78 : RCs 1 RInt m [] ([] : List Int) := RCs.nil
 refine c_rangeFunc ent69 (caps := [.pointer (some ⟨_, _, none⟩)]) rfl hS77 (fun fn86 D11 l11 w87 q11 hq88 hS89 => ?_)
 obtain ⟨r90, hq91, hM⟩ := bnd_ok hM
 refine Calls.ret_mono (cg69 (σ := (List Int)) (H := (Option Addr) × Nat × Nat × (List Value)) (m := m) (M := fun h => m) (F := fun s h => h.2.1 = s.length ∧ RCs 1 RInt m h.2.2.2 s) (A := fun s h => .raw l11 (.loop q11) :: .raw D11 (.deferred (some [])) :: .row (.slice h.1 h.2.1 h.2.2.1) 3 1 h.2.2.2 :: .box b8 35 [.slice h.1 h.2.1 h.2.2.1] :: L) (y := (fun s x11_0 => mg84_r11 fuel  s x11_0)) (l := l11) (fun _ _ _ => Mem.le_refl _) ?_ hr6 (fun _ _ _ => (.there (.there (.there (.there hb2))))) (s0 := ([] : List Int)) (h0 := ⟨none, 0, 0, []⟩) (E := []) ⟨row_n (hS77.toHeld.own .here) hrc78 (by decide), hrc78⟩ (by simpa using hS89) hq91) ?_
 ·rintro E w94 l79 ⟨a80, n81, c82, cs83⟩ x93 s' ⟨hn84, hrc85⟩ hS92 hM
  subst hn84
  simp only [List.cons_append] at hS92
  change mg84_r11 fuel  l79 x93 = some s' at hM
  rw [mg84_r11] at hM
  refine yields_of (ps := [7]) hS92 (congrArg Loop.state hq88) (congrArg Loop.pending hq88) (congrArg Loop.tmps hq88) (congrArg Loop.params hq88) (congrArg Loop.assign hq88) (congrArg Loop.body hq88) rfl ?_
  refine c_region <| wl_h hS92.toHeld (r_assign (v := .int .i64 _) rfl) <| wl_nil <| c_nil <| ⟨_, _, hS92, fun w95 hS96 => ?_⟩
  refine c_block <| c_region <| wl_h hS96.toHeld (r_box ty35 (k := 0) (.there (.there (.there .here))) rfl rfl rfl (v := .slice _ _ _) rfl) <| wl_h hS96.toHeld (r_move (v := .int .i64 _) rfl) <| wl_buildSlice Try.underlying35 ty3 rfl (by decide) (by decide) hS96 (ps := [(0, [.int .i64 _])]) rfl rfl (cs := [.int .i64 _]) rfl rfl (by decide) ?_
  intro b98 w99 hS100
  have hrc101 : RCs 1 RInt m [.int .i64 x93] ([x93] : List Int) := (RCs.cons (d := [.int .i64 x93]) rfl rfl RCs.nil)
  obtain ⟨hc102, hM⟩ := chk_ok hM
  refine wl_append_src Try.underlying35 ty3 rfl (by decide) hS100 (a := _) (nn := _) (c := _) rfl (a2 := _) (k2 := _) (c2 := _) rfl (.there (.there (.there .here))) (row_src (hS100.toHeld.own .here) (RCs.allOne RInt.one (by decide) hrc101)) (lim_b hc102 rfl) (lim_a hc102) ?_
  intro a103 c104 w105 hS106
  have hrc108 := RCs.append hrc85 hrc101
  generalize cs83 ++ [.int .i64 x93] = cs109 at hS106 hrc108
  have hS110 := hS106.weaken (.cons_cons _ (.cons _ (.cons_cons _ (.cons_cons _ (.cons_cons _ (.refl _))))))
  refine wl_store_box ty35 hS110 rfl (v := .slice _ _ _) rfl (vs := [.slice _ _ _]) rfl rfl rfl (.there (.there (.there .here))) (cs' := [.slice _ _ _]) rfl rfl ?_
  intro w111 hS112
  refine wl_nil <| c_nil <| q_norm <| c_nil ?_
  have hS113 := hS112.front (.there (.there (.there .here)))
  have hS114 := hS113.front (.there .here)
  have hS115 := hS114.front (.there (.there (.there .here)))
  have hS116 := hS115.front (.there (.there (.there .here)))
  obtain rfl := some_eq hM
  refine ⟨_, _, hS116, fun w117 hS118 => ?_⟩
  exact ⟨rfl, ⟨a103, (l79.length + 1), c104, cs109⟩, ⟨row_n (hS116.toHeld.own (.there (.there .here))) hrc108 (by decide), hrc108⟩, hS118⟩
 ·rintro _ w126 ⟨rfl, ⟨z119, z120, z121, z122⟩, ⟨hz123, hz124⟩, hS125⟩
  simp only [List.cons_append, List.append_nil] at hS125
  refine ⟨_, _, hS125, fun w127 hS128 => ?_⟩
  subst hz123
  refine c_nil <| q_norm <| c_seq <| c_region <| wl_h hS128.toHeld (r_box ty35 (k := 0) (.there (.there .here)) rfl rfl rfl (v := .slice _ _ _) rfl) ?_
  refine wl_h hS128.toHeld (r_assign (v := .slice _ _ _) rfl) <| wl_nil <| c_ret <| ret_mark hS128 .here (fun w130 hS129 => ?_)
  refine ret_tmp (t := 4) rfl (v := .slice _ _ _) rfl ?_
  obtain rfl := some_eq hM
  have hS131 := hS129.weaken (.cons_cons _ (.cons _ (.refl _)))
  exact ⟨z119, r90.length, z121, z122, rfl, row_n (hS131.toHeld.own .here) hz124 (by decide), hz124, hS131⟩

theorem cg67 {m : Mem} {L : List Atom} {w : World} {b1 : Nat} {a3 : Option Addr} {n4 c5 : Nat} {y7 : (List Int)} (hS : St w m L) (hr6 : RSl 1 RInt m a3 n4 c5 y7) (hb2 : K.Own L (.box b1 35 [.slice a3 n4 c5])) {fuel : Nat} {r : (List Int)} (hM : mg67 fuel y7 = some r) : Calls P0 67 [.func (.func 69) #[] #[.pointer (some ⟨b1, 0, none⟩)]].toArray w (Ret fun v w' => ∃ (a0 : Option Addr) (n0 : Nat) (c0 : Nat) (cs0 : List Value), v = .slice a0 n0 c0 ∧ n0 = r.length ∧ RCs 1 RInt m cs0 r ∧ St w' m (.row (.slice a0 n0 c0) 3 1 cs0 :: L)) := by
 rw [mg67] at hM
 obtain rfl := hr6.1
 refine enter Try.func67 rfl Try.ntmps67 (Nat.le_of_ble_eq_true rfl) ?_
 refine c_seq <| c_region <| wl_h hS.toHeld (r_assign (v := .slice _ _ _) rfl) <| wl_nil <| c_seq <| c_region <| wl_h hS.toHeld (r_move (v := .func (.func 69) #[] #[.pointer (some ⟨_, _, none⟩)]) rfl) ?_
 obtain ⟨r8, hq9, hM⟩ := bnd_ok hM
 refine wl_call ent84 (vals := [.slice _ _ _, .func (.func 69) #[] #[.pointer (some ⟨_, _, none⟩)]]) rfl (cg84 hS hr6 hb2 hq9) ?_
 rintro _ w17 ⟨a11, n12, c13, cs14, rfl, rfl, hrc15, hS18⟩
 refine wl_h hS18.toHeld (r_assign (v := .slice _ _ _) rfl) <| wl_nil <| c_ret <| ret_tmp (t := 2) rfl (v := .slice _ _ _) rfl ?_
 obtain rfl := some_eq hM
 exact ⟨a11, r8.length, c13, cs14, rfl, row_n (hS18.toHeld.own .here) hrc15 (by decide), hrc15, hS18⟩

theorem cg47 {m : Mem} {L : List Atom} {w : World} {b1 : Nat} {a3 : Option Addr} {n4 c5 : Nat} {y7 : (List Int)} (hS : St w m L) (hr6 : RSl 1 RInt m a3 n4 c5 y7) (hb2 : K.Own L (.box b1 35 [.slice a3 n4 c5])) {fuel : Nat} {r : (List Int)} (hM : mg47 fuel y7 = some r) : Calls P0 47 [.func (.func 69) #[] #[.pointer (some ⟨b1, 0, none⟩)]].toArray w (Ret fun v w' => ∃ (a0 : Option Addr) (n0 : Nat) (c0 : Nat) (cs0 : List Value), v = .slice a0 n0 c0 ∧ n0 = r.length ∧ RCs 1 RInt m cs0 r ∧ St w' m (.row (.slice a0 n0 c0) 3 1 cs0 :: L)) := by
 rw [mg47] at hM
 obtain rfl := hr6.1
 refine enter Try.func47 rfl Try.ntmps47 (Nat.le_of_ble_eq_true rfl) ?_
 refine c_seq <| c_region <| wl_h hS.toHeld (r_assign (v := .slice _ _ _) rfl) <| wl_nil <| c_seq <| c_region <| wl_h hS.toHeld (r_move (v := .func (.func 69) #[] #[.pointer (some ⟨_, _, none⟩)]) rfl) ?_
 obtain ⟨r8, hq9, hM⟩ := bnd_ok hM
 refine wl_call ent67 (vals := [.func (.func 69) #[] #[.pointer (some ⟨_, _, none⟩)]]) rfl (cg67 hS hr6 hb2 hq9) ?_
 rintro _ w17 ⟨a11, n12, c13, cs14, rfl, rfl, hrc15, hS18⟩
 refine wl_h hS18.toHeld (r_assign (v := .slice _ _ _) rfl) <| wl_nil <| c_seq <| c_region <| wl_h hS18.toHeld (r_move (v := .slice _ _ _) rfl) ?_
 obtain ⟨r19, hq20, hM⟩ := bnd_ok hM
 refine wl_call ent68 (vals := [.slice _ _ _]) rfl (cg68 hS18 hrc15 hq20) ?_
 rintro _ w25 ⟨cs22, rfl, hl24, hrc23, hS26⟩
 refine wl_nil <| c_seq <| c_region <| wl_h hS26.toHeld (r_move (v := .slice _ _ _) rfl) <| wl_h hS26.toHeld (r_assign (v := .slice _ _ _) rfl) ?_
 refine wl_nil <| c_ret <| ret_tmp (t := 2) rfl (v := .slice _ _ _) rfl ?_
 obtain rfl := some_eq hM
 exact ⟨a11, r8.length, c13, cs22, rfl, row_n (hS26.toHeld.own .here) hrc23 (by decide), hrc23, hS26⟩

theorem cg22 {m : Mem} {L : List Atom} {w : World} {cs1 : List Value} {f3 : Fleet} {a13 : Option Addr} {n14 c15 : Nat} {stops17 : List Int} (hS : St w m L) (hx2 : RFleet m cs1 f3) (hr16 : RSl 1 RInt m a13 n14 c15 stops17) {fuel : Nat} {r : Int} (hM : mg22 fuel f3 stops17 = some r) : Calls P0 22 [.agg cs1.toArray, .slice a13 n14 c15].toArray w (Ret fun v w' => v = .int .i64 r ∧ St w' m (L)) := by
 rw [mg22] at hM
 have hk12 := hx2
 obtain ⟨a4, n5, c6, a8, n9, c10, rfl, hr7, hr11⟩ := hx2
 obtain rfl := hr7.1
 obtain rfl := hr11.1
 obtain rfl := hr16.1
 refine enter Try.func22 rfl Try.ntmps22 (Nat.le_of_ble_eq_true rfl) ?_
 refine c_seq <| c_region <| wl_box hS (v := .agg #[.slice _ _ _, .slice _ _ _, .int .i64 _, .int .i64 _, .int .i64 _]) rfl (cs := [.slice _ _ _, .slice _ _ _, .int .i64 _, .int .i64 _, .int .i64 _]) rfl ?_
 intro b18 w19 hS20
 refine wl_h hS20.toHeld (r_assign (v := .int .i64 _) rfl) <| wl_nil <| c_seq <| c_seq <| c_region <| wl_h hS20.toHeld (r_box ty26 (k := 0) .here rfl rfl rfl (v := .agg #[.slice _ _ _, .slice _ _ _, .int .i64 _, .int .i64 _, .int .i64 _]) rfl) ?_
 obtain ⟨r21, hq22, hM⟩ := bnd_ok hM
 refine wl_call ent18 (vals := [.agg #[.slice _ _ _, .slice _ _ _, .int .i64 _, .int .i64 _, .int .i64 _]]) rfl (cg18 hS20 hk12 hq22) ?_
 rintro _ w24 ⟨rfl, hS25⟩
 refine wl_h hS25.toHeld (r_assign (v := .int .i64 _) rfl) <| wl_nil <| c_seq <| c_region <| wl_h hS25.toHeld (r_move (v := .int .i64 _) rfl) ?_
 refine wl_h hS25.toHeld (r_neq (a := _) (b := _) rfl rfl) <| wl_nil <| c_cond (c := _) rfl (fun h26 => ?_) (fun h26 => ?_)
 ·replace hM := bif_t h26 hM
  refine c_seq <| c_region <| wl_h hS25.toHeld (r_move (v := .int .i64 _) rfl) <| wl_h hS25.toHeld (r_assign (v := .int .i64 _) rfl) <| wl_nil <| c_ret <| ret_tmp (t := 4) rfl (v := .int .i64 _) rfl ?_
  obtain rfl := some_eq hM
  have hS27 := hS25.weaken (.cons _ (.refl _))
  exact ⟨rfl, hS27⟩
 ·replace hM := bif_f h26 hM
  refine c_skip <| c_seq <| c_region <| wl_h hS25.toHeld (r_move (v := .slice _ _ _) rfl) <| wl_call ent48 (vals := [.slice _ _ _]) rfl (cg48 hS25 hr16) ?_
  rintro _ w29 ⟨b28, rfl, hS30⟩
  obtain ⟨r31, hq32, hM⟩ := bnd_ok hM
  refine wl_call ent47 (vals := [.func (.func 69) #[] #[.pointer (some ⟨_, _, none⟩)]]) rfl (cg47 hS30 hr16 .here hq32) ?_
  rintro _ w40 ⟨a34, n35, c36, cs37, rfl, rfl, hrc38, hS41⟩
  refine wl_h hS41.toHeld (r_assign (v := .slice _ _ _) rfl) <| wl_nil <| c_seq <| c_seq ?_
  have hH108 := (hS41.weaken (.cons _ (.cons_cons _ (.cons_cons _ (.refl _))))).toHeld
  refine c_draw (k := 29) (fun w => Held w m (.box b28 35 [.slice a13 stops17.length c15] :: .box b18 26 [.slice a4 f3.stops.length c6, .slice a8 f3.minutes.length c10, .int .i64 f3.cap, .int .i64 f3.start, .int .i64 f3.back] :: L)) mixed rfl ?_
  replace hH108 := hH108.drew1
  have hS109 := hS41.drew1
  refine d_v (i := 0) rfl (by kernel_rfl) rfl (r_move (v := .slice _ _ _) rfl) hH108 ?_
  refine d_v (i := 1) rfl (by kernel_rfl) rfl (r_len Try.underlying35 (a := _) (n := _) (c := _) rfl) hH108 ?_
  refine d_v (i := 2) rfl (by kernel_rfl) rfl (r_eql (a := _) (b := _) rfl rfl) hH108 ?_
  refine d_v (i := 3) rfl (by kernel_rfl) rfl (r_move (v := .bool _) rfl) hH108 ?_
  refine d_split (t := 18) (c := _) rfl (fun h110 => ?_) (fun h110 => ?_)
  ·replace hM := bif_t h110 hM
   refine d_off (i := 4) rfl (by kernel_rfl) rfl (t := 18) (b := true) rfl rfl rfl hH108 ?_
   refine d_off (i := 5) rfl (by kernel_rfl) rfl (t := 18) (b := true) rfl rfl rfl hH108 ?_
   refine d_off (i := 6) rfl (by kernel_rfl) rfl (t := 18) (b := true) rfl rfl rfl hH108 ?_
   refine d_off (i := 7) rfl (by kernel_rfl) rfl (t := 18) (b := true) rfl rfl rfl hH108 ?_
   refine d_v (i := 8) rfl (by kernel_rfl) rfl (r_pick_t rfl (v := .bool _) rfl) hH108 ?_
   refine d_v (i := 9) rfl (by kernel_rfl) rfl (r_move (v := .bool _) rfl) hH108 ?_
   refine d_off (i := 10) rfl (by kernel_rfl) rfl (t := 24) (b := true) rfl rfl rfl hH108 ?_
   refine d_off (i := 11) rfl (by kernel_rfl) rfl (t := 24) (b := true) rfl rfl rfl hH108 ?_
   refine d_off (i := 12) rfl (by kernel_rfl) rfl (t := 24) (b := true) rfl rfl rfl hH108 ?_
   refine d_off (i := 13) rfl (by kernel_rfl) rfl (t := 24) (b := true) rfl rfl rfl hH108 ?_
   refine d_off (i := 14) rfl (by kernel_rfl) rfl (t := 24) (b := true) rfl rfl rfl hH108 ?_
   refine d_off (i := 15) rfl (by kernel_rfl) rfl (t := 24) (b := true) rfl rfl rfl hH108 ?_
   refine d_off (i := 16) rfl (by kernel_rfl) rfl (t := 24) (b := true) rfl rfl rfl hH108 ?_
   refine d_off (i := 17) rfl (by kernel_rfl) rfl (t := 24) (b := true) rfl rfl rfl hH108 ?_
   refine d_off (i := 18) rfl (by kernel_rfl) rfl (t := 24) (b := true) rfl rfl rfl hH108 ?_
   refine d_off (i := 19) rfl (by kernel_rfl) rfl (t := 24) (b := true) rfl rfl rfl hH108 ?_
   refine d_v (i := 20) rfl (by kernel_rfl) rfl (r_pick_t rfl (v := .bool _) rfl) hH108 ?_
   refine d_v (i := 21) rfl (by kernel_rfl) rfl (r_move (v := .bool _) rfl) hH108 ?_
   refine d_off (i := 22) rfl (by kernel_rfl) rfl (t := 36) (b := true) rfl rfl rfl hH108 ?_
   refine d_off (i := 23) rfl (by kernel_rfl) rfl (t := 36) (b := true) rfl rfl rfl hH108 ?_
   refine d_off (i := 24) rfl (by kernel_rfl) rfl (t := 36) (b := true) rfl rfl rfl hH108 ?_
   refine d_off (i := 25) rfl (by kernel_rfl) rfl (t := 36) (b := true) rfl rfl rfl hH108 ?_
   refine d_off (i := 26) rfl (by kernel_rfl) rfl (t := 36) (b := true) rfl rfl rfl hH108 ?_
   refine d_off (i := 27) rfl (by kernel_rfl) rfl (t := 36) (b := true) rfl rfl rfl hH108 ?_
   refine d_v (i := 28) rfl (by kernel_rfl) rfl (r_pick_t rfl (v := .bool _) rfl) hH108 ?_
   refine d_end (by kernel_rfl) ?_
   refine c_true rfl <| c_seq <| c_region <| wl_h hS109.toHeld (r_assign (v := .int .i64 _) rfl) <| wl_nil <| c_ret <| ret_tmp (t := 4) rfl (v := .int .i64 _) rfl ?_
   obtain rfl := some_eq hM
   have hS111 := hS109.weaken (.cons _ (.cons _ (.cons _ (.refl _))))
   exact ⟨rfl, hS111⟩
  ·replace hM := bif_f h110 hM
   refine d_on (i := 4) rfl (by kernel_rfl) rfl (t := 18) rfl rfl (r_move (v := .slice _ _ _) rfl) hH108 ?_
   obtain ⟨x112, hx113, h114, h115, hM⟩ := getK_ok hM
   obtain ⟨b116, rfl⟩ := row_some (hS109.toHeld.own .here) hrc38 (by decide) h114 h115
   obtain ⟨es117, hes118, hR119⟩ := row_read hrc38 hx113
   obtain rfl := hR119
   refine d_on (i := 5) rfl (by kernel_rfl) rfl (t := 18) rfl rfl (r_indexAddr Try.underlying35 ty3 (b := _) (o := _) (n := _) (c := _) (i := 0) rfl rfl h114 (row_lt (hS109.toHeld.own .here) hrc38 (by decide) h115)) hH108 ?_
   refine d_all (rs := [6]) (by kernel_rfl) (by simp) (fun j hj o ho => ?_)
   obtain rfl : j = 6 := by simpa using hj
   cases ho
   refine wl_on (t := 18) rfl rfl ?_
   refine wl_h hS109.toHeld (r_row ty3 (k := 0) (i := (0 : Int).toNat) .here rfl rfl (row_room hrc38 hx113) hes118 rfl (v := .int .i64 _) rfl) <| wl_nil ?_
   have hH120 := hS109.toHeld.mono (Mem.le_refl _) (List.Sublist.subset (.cons _ (.cons_cons _ (.cons_cons _ (.refl _)))))
   refine ⟨hH120, ?_⟩
   refine d_on (i := 7) rfl (by kernel_rfl) rfl (t := 18) rfl rfl (r_lss (a := _) (b := _) rfl rfl) hH120 ?_
   refine d_v (i := 8) rfl (by kernel_rfl) rfl (r_pick_f rfl (v := .bool _) rfl) hH120 ?_
   refine d_v (i := 9) rfl (by kernel_rfl) rfl (r_move (v := .bool _) rfl) hH120 ?_
   refine d_split (t := 24) (c := _) rfl (fun h121 => ?_) (fun h121 => ?_)
   ·replace hM := bif_t h121 hM
    refine d_off (i := 10) rfl (by kernel_rfl) rfl (t := 24) (b := true) rfl rfl rfl hH120 ?_
    refine d_off (i := 11) rfl (by kernel_rfl) rfl (t := 24) (b := true) rfl rfl rfl hH120 ?_
    refine d_off (i := 12) rfl (by kernel_rfl) rfl (t := 24) (b := true) rfl rfl rfl hH120 ?_
    refine d_off (i := 13) rfl (by kernel_rfl) rfl (t := 24) (b := true) rfl rfl rfl hH120 ?_
    refine d_off (i := 14) rfl (by kernel_rfl) rfl (t := 24) (b := true) rfl rfl rfl hH120 ?_
    refine d_off (i := 15) rfl (by kernel_rfl) rfl (t := 24) (b := true) rfl rfl rfl hH120 ?_
    refine d_off (i := 16) rfl (by kernel_rfl) rfl (t := 24) (b := true) rfl rfl rfl hH120 ?_
    refine d_off (i := 17) rfl (by kernel_rfl) rfl (t := 24) (b := true) rfl rfl rfl hH120 ?_
    refine d_off (i := 18) rfl (by kernel_rfl) rfl (t := 24) (b := true) rfl rfl rfl hH120 ?_
    refine d_off (i := 19) rfl (by kernel_rfl) rfl (t := 24) (b := true) rfl rfl rfl hH120 ?_
    refine d_v (i := 20) rfl (by kernel_rfl) rfl (r_pick_t rfl (v := .bool _) rfl) hH120 ?_
    refine d_v (i := 21) rfl (by kernel_rfl) rfl (r_move (v := .bool _) rfl) hH120 ?_
    refine d_off (i := 22) rfl (by kernel_rfl) rfl (t := 36) (b := true) rfl rfl rfl hH120 ?_
    refine d_off (i := 23) rfl (by kernel_rfl) rfl (t := 36) (b := true) rfl rfl rfl hH120 ?_
    refine d_off (i := 24) rfl (by kernel_rfl) rfl (t := 36) (b := true) rfl rfl rfl hH120 ?_
    refine d_off (i := 25) rfl (by kernel_rfl) rfl (t := 36) (b := true) rfl rfl rfl hH120 ?_
    refine d_off (i := 26) rfl (by kernel_rfl) rfl (t := 36) (b := true) rfl rfl rfl hH120 ?_
    refine d_off (i := 27) rfl (by kernel_rfl) rfl (t := 36) (b := true) rfl rfl rfl hH120 ?_
    refine d_v (i := 28) rfl (by kernel_rfl) rfl (r_pick_t rfl (v := .bool _) rfl) hH120 ?_
    refine d_end (by kernel_rfl) ?_
    refine c_true rfl <| c_seq <| c_region <| wl_h hS109.toHeld (r_assign (v := .int .i64 _) rfl) <| wl_nil <| c_ret <| ret_tmp (t := 4) rfl (v := .int .i64 _) rfl ?_
    obtain rfl := some_eq hM
    have hS122 := hS109.weaken (.cons _ (.cons _ (.cons _ (.refl _))))
    exact ⟨rfl, hS122⟩
   ·replace hM := bif_f h121 hM
    refine d_on (i := 10) rfl (by kernel_rfl) rfl (t := 24) rfl rfl (r_move (v := .slice _ _ _) rfl) hH120 ?_
    refine d_on (i := 11) rfl (by kernel_rfl) rfl (t := 24) rfl rfl (r_move (v := .slice _ _ _) rfl) hH120 ?_
    refine d_on (i := 12) rfl (by kernel_rfl) rfl (t := 24) rfl rfl (r_len Try.underlying35 (a := _) (n := _) (c := _) rfl) hH120 ?_
    obtain ⟨hc123, hM⟩ := chk_ok hM
    refine d_on (i := 13) rfl (by kernel_rfl) rfl (t := 24) rfl rfl (r_sub (a := _) (b := _) rfl rfl (ok_lo hc123) (ok_hi hc123)) hH120 ?_
    obtain ⟨x124, hx125, h126, h127, hM⟩ := getK_ok hM
    obtain ⟨es128, hes129, hR130⟩ := row_read hrc38 hx125
    obtain rfl := hR130
    refine d_on (i := 14) rfl (by kernel_rfl) rfl (t := 24) rfl rfl (r_indexAddr Try.underlying35 ty3 (b := _) (o := _) (n := _) (c := _) (i := ((r31.length : Nat) : Int) - 1) rfl rfl h126 (row_lt (hS109.toHeld.own .here) hrc38 (by decide) h127)) hH120 ?_
    refine d_on (i := 16) rfl (by kernel_rfl) rfl (t := 24) rfl rfl (r_fieldAddr fld26_0 (b := _) (o := _) rfl) hH120 ?_
    refine d_on (i := 17) rfl (by kernel_rfl) rfl (t := 24) rfl rfl (r_box ty23 (k := 0) (.there .here) rfl rfl rfl (v := .slice _ _ _) rfl) hH120 ?_
    refine d_on (i := 18) rfl (by kernel_rfl) rfl (t := 24) rfl rfl (r_len Try.underlying23 (a := _) (n := _) (c := _) rfl) hH120 ?_
    refine d_all (rs := [15]) (by kernel_rfl) (by simp) (fun j hj o ho => ?_)
    obtain rfl : j = 15 := by simpa using hj
    cases ho
    refine wl_on (t := 24) rfl rfl ?_
    refine wl_h hS109.toHeld (r_row ty3 (k := 0) (i := (((r31.length : Nat) : Int) - 1).toNat) .here rfl rfl (row_room hrc38 hx125) hes129 rfl (v := .int .i64 _) rfl) <| wl_nil ?_
    have hH131 := hS109.toHeld.mono (Mem.le_refl _) (List.Sublist.subset (.cons _ (.cons_cons _ (.cons_cons _ (.refl _)))))
    refine ⟨hH131, ?_⟩
    refine d_on (i := 19) rfl (by kernel_rfl) rfl (t := 24) rfl rfl (r_geq (a := _) (b := _) rfl rfl) hH131 ?_
    refine d_v (i := 20) rfl (by kernel_rfl) rfl (r_pick_f rfl (v := .bool _) rfl) hH131 ?_
    refine d_v (i := 21) rfl (by kernel_rfl) rfl (r_move (v := .bool _) rfl) hH131 ?_
    refine d_split (t := 36) (c := _) rfl (fun h132 => ?_) (fun h132 => ?_)
    ·replace hM := bif_t h132 hM
     refine d_off (i := 22) rfl (by kernel_rfl) rfl (t := 36) (b := true) rfl rfl rfl hH131 ?_
     refine d_off (i := 23) rfl (by kernel_rfl) rfl (t := 36) (b := true) rfl rfl rfl hH131 ?_
     refine d_off (i := 24) rfl (by kernel_rfl) rfl (t := 36) (b := true) rfl rfl rfl hH131 ?_
     refine d_off (i := 25) rfl (by kernel_rfl) rfl (t := 36) (b := true) rfl rfl rfl hH131 ?_
     refine d_off (i := 26) rfl (by kernel_rfl) rfl (t := 36) (b := true) rfl rfl rfl hH131 ?_
     refine d_off (i := 27) rfl (by kernel_rfl) rfl (t := 36) (b := true) rfl rfl rfl hH131 ?_
     refine d_v (i := 28) rfl (by kernel_rfl) rfl (r_pick_t rfl (v := .bool _) rfl) hH131 ?_
     refine d_end (by kernel_rfl) ?_
     refine c_true rfl <| c_seq <| c_region <| wl_h hS109.toHeld (r_assign (v := .int .i64 _) rfl) <| wl_nil <| c_ret <| ret_tmp (t := 4) rfl (v := .int .i64 _) rfl ?_
     obtain rfl := some_eq hM
     have hS133 := hS109.weaken (.cons _ (.cons _ (.cons _ (.refl _))))
     exact ⟨rfl, hS133⟩
    ·replace hM := bif_f h132 hM
     refine d_on (i := 22) rfl (by kernel_rfl) rfl (t := 36) rfl rfl (r_move (v := .slice _ _ _) rfl) hH131 ?_
     refine d_on (i := 25) rfl (by kernel_rfl) rfl (t := 36) rfl rfl (r_move (v := .slice _ _ _) rfl) hH131 ?_
     refine d_on (i := 26) rfl (by kernel_rfl) rfl (t := 36) rfl rfl (r_len Try.underlying35 (a := _) (n := _) (c := _) rfl) hH131 ?_
     refine d_all (rs := [23]) (by kernel_rfl) (by simp) (fun j hj o ho => ?_)
     obtain rfl : j = 23 := by simpa using hj
     cases ho
     refine wl_on (t := 36) rfl rfl ?_
     obtain ⟨r134, hq135, hM⟩ := bnd_ok hM
     refine wl_call ent49 (vals := [.slice _ _ _]) rfl (cg49 hS109 hrc38 hq135) ?_
     rintro _ w141 ⟨a136, n137, c138, cs139, rfl, rfl, hrc140, hS143⟩
     refine wl_nil ?_
     have hH144 := hS143.toHeld.mono (Mem.le_refl _) (List.Sublist.subset (.cons _ (.cons_cons _ (.cons_cons _ (.refl _)))))
     refine ⟨hH144, ?_⟩
     refine d_on (i := 24) rfl (by kernel_rfl) rfl (t := 36) rfl rfl (r_len Try.underlying35 (a := _) (n := _) (c := _) rfl) hH144 ?_
     refine d_on (i := 27) rfl (by kernel_rfl) rfl (t := 36) rfl rfl (r_lss (a := _) (b := _) rfl rfl) hH144 ?_
     refine d_v (i := 28) rfl (by kernel_rfl) rfl (r_pick_f rfl (v := .bool _) rfl) hH144 ?_
     refine d_end (by kernel_rfl) ?_
     refine c_cond (c := _) rfl (fun h145 => ?_) (fun h145 => ?_)
     ·replace hM := bif_t h145 hM
      refine c_seq <| c_region <| wl_h hS143.toHeld (r_assign (v := .int .i64 _) rfl) <| wl_nil <| c_ret <| ret_tmp (t := 4) rfl (v := .int .i64 _) rfl ?_
      obtain rfl := some_eq hM
      have hS146 := hS143.weaken (.cons _ (.cons _ (.cons _ (.refl _))))
      exact ⟨rfl, hS146⟩
     ·replace hM := bif_f h145 hM
      refine c_skip <| c_seq <| c_seq ?_
      have hH155 := (hS143.weaken (.cons_cons _ (.cons_cons _ (.cons_cons _ (.refl _))))).toHeld
      refine c_draw (k := 6) (fun w => Held w m (.row (.slice a136 r134.length c138) 3 1 cs139 :: .box b28 35 [.slice a13 stops17.length c15] :: .box b18 26 [.slice a4 f3.stops.length c6, .slice a8 f3.minutes.length c10, .int .i64 f3.cap, .int .i64 f3.start, .int .i64 f3.back] :: L)) mixed rfl ?_
      replace hH155 := hH155.drew1
      have hS156 := hS143.drew1
      refine d_v (i := 0) rfl (by kernel_rfl) rfl (r_box ty26 (k := 0) (.there (.there .here)) rfl rfl rfl (v := .agg #[.slice _ _ _, .slice _ _ _, .int .i64 _, .int .i64 _, .int .i64 _]) rfl) hH155 ?_
      refine d_v (i := 1) rfl (by kernel_rfl) rfl (r_move (v := .slice _ _ _) rfl) hH155 ?_
      refine d_v (i := 3) rfl (by kernel_rfl) rfl (r_fieldAddr fld26_2 (b := _) (o := _) rfl) hH155 ?_
      refine d_v (i := 4) rfl (by kernel_rfl) rfl (r_box ty3 (k := 2) (.there (.there .here)) rfl rfl rfl (v := .int .i64 _) rfl) hH155 ?_
      refine d_all (rs := [2]) (by kernel_rfl) (by simp) (fun j hj o ho => ?_)
      obtain rfl : j = 2 := by simpa using hj
      cases ho
      obtain ⟨r157, hq158, hM⟩ := bnd_ok hM
      refine wl_call ent50 (vals := [.agg #[.slice _ _ _, .slice _ _ _, .int .i64 _, .int .i64 _, .int .i64 _], .slice _ _ _]) rfl (cg50 hS156 hk12 hr16 hq158) ?_
      rintro _ w160 ⟨rfl, hS161⟩
      refine wl_nil ?_
      have hH162 := hS161.toHeld.mono (Mem.le_refl _) (List.Sublist.subset (.cons_cons _ (.cons_cons _ (.cons_cons _ (.refl _)))))
      refine ⟨hH162, ?_⟩
      refine d_v (i := 5) rfl (by kernel_rfl) rfl (r_gtr (a := _) (b := _) rfl rfl) hH162 ?_
      refine d_end (by kernel_rfl) ?_
      refine c_cond (c := _) rfl (fun h163 => ?_) (fun h163 => ?_)
      ·replace hM := bif_t h163 hM
       refine c_seq <| c_region <| wl_h hS161.toHeld (r_assign (v := .int .i64 _) rfl) <| wl_nil <| c_ret <| ret_tmp (t := 4) rfl (v := .int .i64 _) rfl ?_
       obtain rfl := some_eq hM
       have hS164 := hS161.weaken (.cons _ (.cons _ (.cons _ (.refl _))))
       exact ⟨rfl, hS164⟩
      ·replace hM := bif_f h163 hM
       refine c_skip <| c_seq <| c_region <| wl_h hS161.toHeld (r_assign (v := .int .i64 _) rfl) <| wl_nil <| c_ret <| ret_tmp (t := 4) rfl (v := .int .i64 _) rfl ?_
       obtain rfl := some_eq hM
       have hS165 := hS161.weaken (.cons _ (.cons _ (.cons _ (.refl _))))
       exact ⟨rfl, hS165⟩

theorem cg20 {m : Mem} {L : List Atom} {w : World} {a : Option Addr} {n c : Nat} {xs : List Int} (hS : St w m L) (hr : RSl 1 RInt m a n c xs) {fuel : Nat} {r : List Int} (hM : mg20 fuel xs = some r) : Calls P0 20 [.slice a n c].toArray w (Ret fun v w' => ∃ (a0 : Option Addr) (n0 c0 : Nat) (cs0 : List Value), v = .slice a0 n0 c0 ∧ n0 = r.length ∧ RCs 1 RInt m cs0 r ∧ St w' m (.row (.slice a0 n0 c0) 3 1 cs0 :: L)) := by
 rw [mg20] at hM
 rcases a with _ | ad
 · obtain rfl : n = 0 := by
    rcases Nat.eq_zero_or_pos n with h | h
    · exact h
    · obtain ⟨b, o, e, _⟩ := hr.2.2.2 h; cases e
   obtain rfl : xs = [] := List.eq_nil_of_length_eq_zero hr.1
   refine enter Try.func20 rfl Try.ntmps20 (Nat.le_of_ble_eq_true rfl) ?_
   refine c_seq <| c_region <| wl_h hS.toHeld (r_assign (v := .slice _ _ _) rfl) <| wl_nil <| c_seq <| c_seq <| c_region <| wl_h hS.toHeld (r_move (v := .slice _ _ _) rfl) ?_
   refine wl_h hS.toHeld (r_nil_eql Try.underlying35 rfl rfl) <| wl_nil <| c_true rfl <| c_seq <| c_region <| wl_h hS.toHeld (r_assign (v := .slice _ _ _) rfl) ?_
   refine wl_nil <| c_ret <| ret_tmp (t := 2) rfl (v := .slice _ _ _) rfl ?_
   have hS1 := hS.nilRow 3 1
   have hrc3 : RCs 1 RInt m [] ([] : List Int) := RCs.nil
   obtain ⟨_, hM⟩ := chk_ok hM
   obtain rfl := some_eq hM
   exact ⟨none, 0, 0, [], rfl, row_n (hS1.toHeld.own .here) hrc3 (by decide), hrc3, hS1⟩
 · obtain rfl := hr.1
   refine enter Try.func20 rfl Try.ntmps20 (Nat.le_of_ble_eq_true rfl) ?_
   refine c_seq <| c_region <| wl_h hS.toHeld (r_assign (v := .slice _ _ _) rfl) <| wl_nil <| c_seq <| c_seq <| c_region <| wl_h hS.toHeld (r_move (v := .slice _ _ _) rfl) ?_
   refine wl_h hS.toHeld (r_nil_eql Try.underlying35 rfl rfl) <| wl_nil <| c_false rfl <| c_skip <| c_seq <| c_region <| wl_emptySlice Try.underlying35 ty3 hS ?_
   intro b2 w3 hS4
   have hrc5 : RCs 1 RInt m [] ([] : List Int) := RCs.nil
   refine wl_h hS4.toHeld (r_move (v := .slice _ _ _) rfl) ?_
   obtain ⟨hc6, hM⟩ := chk_ok hM
   obtain ⟨cs7, hq8, hrc9⟩ := RSl.cells RInt.one (by decide) hr hS4.toHeld
   refine wl_append_src Try.underlying35 ty3 rfl (by decide) hS4 (a := _) (nn := _) (c := _) rfl (a2 := _) (k2 := _) (c2 := _) rfl .here hq8 (lim_b hc6 rfl) (lim_a hc6) ?_
   intro a10 c11 w12 hS13
   have hrc15 := RCs.append hrc5 hrc9
   generalize [] ++ cs7 = cs16 at hS13 hrc15
   refine wl_h hS13.toHeld (r_assign (v := .slice _ _ _) rfl) <| wl_nil <| c_ret <| ret_tmp (t := 2) rfl (v := .slice _ _ _) rfl ?_
   obtain rfl := some_eq hM
   exact ⟨a10, (0 + xs.length), c11, cs16, rfl, row_n (hS13.toHeld.own .here) hrc15 (by decide), hrc15, hS13⟩

theorem cg51 {m : Mem} {L : List Atom} {w : World} {cs1 : List Value} {f3 : Fleet} {from13 : Int} {at14 : Int} {stop15 : Int} (hS : St w m L) (hx2 : RFleet m cs1 f3) {fuel : Nat} {r : Int × Int × Bool} (hM : mg51 fuel f3 from13 at14 stop15 = some r) : Calls P0 51 [.agg cs1.toArray, .int .i64 from13, .int .i64 at14, .int .i64 stop15].toArray w (Ret fun v w' => v = .tuple #[.int .i64 r.1, .int .i64 r.2.1, .bool r.2.2] ∧ St w' m (L)) := by
 rw [mg51] at hM
 have hk12 := hx2
 obtain ⟨a4, n5, c6, a8, n9, c10, rfl, hr7, hr11⟩ := hx2
 obtain rfl := hr7.1
 obtain rfl := hr11.1
 refine enter Try.func51 rfl Try.ntmps51 (Nat.le_of_ble_eq_true rfl) ?_
 refine c_seq <| c_region <| wl_box hS (v := .agg #[.slice _ _ _, .slice _ _ _, .int .i64 _, .int .i64 _, .int .i64 _]) rfl (cs := [.slice _ _ _, .slice _ _ _, .int .i64 _, .int .i64 _, .int .i64 _]) rfl ?_
 intro b16 w17 hS18
 refine wl_h hS18.toHeld (r_assign (v := .int .i64 _) rfl) <| wl_h hS18.toHeld (r_assign (v := .int .i64 _) rfl) <| wl_h hS18.toHeld (r_assign (v := .bool _) rfl) <| wl_nil <| c_seq <| c_region <| wl_h hS18.toHeld (r_fieldAddr fld26_0 (b := _) (o := _) rfl) ?_
 refine wl_h hS18.toHeld (r_box ty23 (k := 0) .here rfl rfl rfl (v := .slice _ _ _) rfl) <| wl_h hS18.toHeld (r_move (v := .int .i64 _) rfl) ?_
 obtain ⟨x19, hx20, h21, h22, hM⟩ := getK_ok hM
 obtain ⟨b23, o24, rfl⟩ := RSl.elem_a hr7 hx20
 obtain ⟨cs25, hI26, hR27⟩ := RSl.elem_at hr7 hx20
 obtain rfl := hR27
 refine wl_h hS18.toHeld (r_indexAddr Try.underlying23 ty34 (b := _) (o := _) (n := _) (c := _) (i := stop15) rfl rfl h21 (RSl.lt hr7 h22)) <| wl_h hS18.toHeld (r_imm ty34 (k := 0) hI26 rfl rfl rfl (v := .agg #[.int .i64 _, .int .i64 _, .int .i64 _, .int .i64 _, .int .i64 _]) rfl) <| wl_alloc ty34 rfl hS18 ?_
 intro b28 w29 hS30
 refine wl_store_box ty34 hS30 rfl (v := .agg #[.int .i64 _, .int .i64 _, .int .i64 _, .int .i64 _, .int .i64 _]) rfl (vs := [.int .i64 _, .int .i64 _, .int .i64 _, .int .i64 _, .int .i64 _]) rfl rfl rfl .here (cs' := [.int .i64 _, .int .i64 _, .int .i64 _, .int .i64 _, .int .i64 _]) rfl rfl ?_
 intro w31 hS32
 refine wl_nil <| c_seq <| c_region <| wl_h hS32.toHeld (r_move (v := .int .i64 _) rfl) <| wl_h hS32.toHeld (r_fieldAddr fld26_1 (b := _) (o := _) rfl) ?_
 refine wl_h hS32.toHeld (r_box ty24 (k := 1) (.there .here) rfl rfl rfl (v := .slice _ _ _) rfl) <| wl_h hS32.toHeld (r_move (v := .int .i64 _) rfl) ?_
 obtain ⟨x33, hx34, h35, h36, hM⟩ := getK_ok hM
 obtain ⟨b37, o38, rfl⟩ := RSl.elem_a hr11 hx34
 obtain ⟨cs39, hI40, hR41⟩ := RSl.elem_at hr11 hx34
 obtain ⟨a42, n43, c44, rfl, hr45⟩ := hR41
 obtain rfl := hr45.1
 refine wl_h hS32.toHeld (r_indexAddr Try.underlying24 ty35 (b := _) (o := _) (n := _) (c := _) (i := from13) rfl rfl h35 (RSl.lt hr11 h36)) <| wl_h hS32.toHeld (r_imm ty35 (k := 0) hI40 rfl rfl rfl (v := .slice _ _ _) rfl) <| wl_h hS32.toHeld (r_move (v := .int .i64 _) rfl) ?_
 obtain ⟨hc46, hM⟩ := chk_ok hM
 refine wl_h hS32.toHeld (r_add (a := _) (b := _) rfl rfl (ok_lo hc46) (ok_hi hc46)) ?_
 obtain ⟨x47, hx48, h49, h50, hM⟩ := getK_ok hM
 obtain ⟨b51, o52, rfl⟩ := RSl.elem_a hr45 hx48
 obtain ⟨cs53, hI54, hR55⟩ := RSl.elem_at hr45 hx48
 obtain rfl := hR55
 refine wl_h hS32.toHeld (r_indexAddr Try.underlying35 ty3 (b := _) (o := _) (n := _) (c := _) (i := stop15 + 1) rfl rfl h49 (RSl.lt hr45 h50)) <| wl_h hS32.toHeld (r_imm ty3 (k := 0) hI54 rfl rfl rfl (v := .int .i64 _) rfl) ?_
 obtain ⟨hc56, hM⟩ := chk_ok hM
 refine wl_h hS32.toHeld (r_add (a := _) (b := _) rfl rfl (ok_lo hc56) (ok_hi hc56)) <| wl_h hS32.toHeld (r_assign (v := .int .i64 _) rfl) <| wl_nil <| c_seq ?_
 have hH60 := (hS32.weaken (.cons_cons _ (.cons_cons _ (.refl _)))).toHeld
 refine c_draw (k := 15) (fun w => Held w m (.box b28 34 [.int .i64 x19.load, .int .i64 x19.ready, .int .i64 x19.opn, .int .i64 x19.close, .int .i64 x19.serve] :: .box b16 26 [.slice (some ⟨b23, o24, none⟩) f3.stops.length c6, .slice (some ⟨b37, o38, none⟩) f3.minutes.length c10, .int .i64 f3.cap, .int .i64 f3.start, .int .i64 f3.back] :: L)) mixed rfl ?_
 replace hH60 := hH60.drew1
 have hS61 := hS32.drew1
 refine d_v (i := 0) rfl (by kernel_rfl) rfl (r_move (v := .int .i64 _) rfl) hH60 ?_
 refine d_v (i := 1) rfl (by kernel_rfl) rfl (r_move (v := .int .i64 _) rfl) hH60 ?_
 refine d_v (i := 2) rfl (by kernel_rfl) rfl (r_fieldAddr fld34_2 (b := _) (o := _) rfl) hH60 ?_
 refine d_v (i := 3) rfl (by kernel_rfl) rfl (r_box ty3 (k := 2) .here rfl rfl rfl (v := .int .i64 _) rfl) hH60 ?_
 refine d_v (i := 4) rfl (by kernel_rfl) rfl (r_max (a := _) (b := _) rfl rfl) hH60 ?_
 refine d_v (i := 5) rfl (by kernel_rfl) rfl (r_fieldAddr fld34_4 (b := _) (o := _) rfl) hH60 ?_
 refine d_v (i := 6) rfl (by kernel_rfl) rfl (r_box ty3 (k := 4) .here rfl rfl rfl (v := .int .i64 _) rfl) hH60 ?_
 obtain ⟨hc62, hM⟩ := chk_ok hM
 refine d_v (i := 7) rfl (by kernel_rfl) rfl (r_add (a := _) (b := _) rfl rfl (ok_lo hc62) (ok_hi hc62)) hH60 ?_
 refine d_v (i := 8) rfl (by kernel_rfl) rfl (r_move (v := .int .i64 _) rfl) hH60 ?_
 refine d_v (i := 9) rfl (by kernel_rfl) rfl (r_fieldAddr fld34_3 (b := _) (o := _) rfl) hH60 ?_
 refine d_v (i := 10) rfl (by kernel_rfl) rfl (r_box ty3 (k := 3) .here rfl rfl rfl (v := .int .i64 _) rfl) hH60 ?_
 refine d_v (i := 11) rfl (by kernel_rfl) rfl (r_leq (a := _) (b := _) rfl rfl) hH60 ?_
 refine d_v (i := 12) rfl (by kernel_rfl) rfl (r_assign (v := .int .i64 _) rfl) hH60 ?_
 refine d_v (i := 13) rfl (by kernel_rfl) rfl (r_assign (v := .int .i64 _) rfl) hH60 ?_
 refine d_v (i := 14) rfl (by kernel_rfl) rfl (r_assign (v := .bool _) rfl) hH60 ?_
 refine d_end (by kernel_rfl) ?_
 refine c_ret <| ret_many rfl (.tmp (v := .int .i64 _) rfl (.tmp (v := .int .i64 _) rfl (.tmp (v := .bool _) rfl .nil))) ?_
 obtain rfl := some_eq hM
 have hS63 := hS61.weaken (.cons _ (.cons _ (.refl _)))
 exact ⟨rfl, hS63⟩

end Go.Proofs.Ytdhhimfcjoclfaa
