/- Proved here: the statement VanTours of layer 10: at every fleet and every list of stops foldhouselaw10.VanTours returns true, and the arguments read behind the call as before it. Conditions: none (the statement of the first form, for arguments of any size). -/
import Derived.Test.YtdhhimfcjoclfaaGreatRows
import Derived.Test.YtdhhimfcjoclfaaGreatKR
import Derived.Test.YtdhhimfcjoclfaaGreatVA4
import Derived.Test.YtdhhimfcjoclfaaGreatPF
set_option linter.unusedVariables false
set_option linter.unusedSimpArgs false
set_option linter.unnecessarySimpa false
namespace Go.Proofs.YtdhhimfcjoclfaaGreat
open Go Go.K Go.V Go.ChangeShapes Go.WideShapes Go.RowKit

theorem own_t : ownKnob Tryz.prog.godebug = none := by kernel_rfl
theorem laid_t : laidOutB Tryz.prog = true := by kernel_rfl
section
variable {H : Type} {enc : TypeId × Value → H} {w : World} {base : Nat} {spare : Nat → Bool} {held : Bool}
theorem c3 : Tryz.prog.cellsOf 3 = 1 := by kernel_rfl
theorem c22 : Tryz.prog.cellsOf 22 = 1 := by kernel_rfl
theorem c23 : Tryz.prog.cellsOf 23 = 1 := by kernel_rfl
theorem c26 : Tryz.prog.cellsOf 26 = 1 := by kernel_rfl
theorem c34 : Tryz.prog.cellsOf 34 = 5 := by kernel_rfl
theorem c25 : Tryz.prog.cellsOf 25 = 5 := by kernel_rfl
theorem op_Int (fuel : Nat) (cs : List Value) (x : DataW H × List MemPlace) (h : DataW.trod enc Tryz.prog w base spare held fuel 3 cs = some x) : ∃ y, RInt (whole w) cs y := op_RInt Tryz.underlying3 fuel cs x h
theorem op_Ints (fuel : Nat) (cs : List Value) (x : DataW H × List MemPlace) (h : DataW.trod enc Tryz.prog w base spare held fuel 26 cs = some x) : ∃ y, RS 1 RInt (whole w) cs y := op_RS Tryz.underlying26 c3 (by decide) op_Int fuel cs x h
theorem op_Stop (fuel : Nat) (cs : List Value) (x : DataW H × List MemPlace) (h : DataW.trod enc Tryz.prog w base spare held fuel 34 cs = some x) : ∃ y, RStop (whole w) cs y := by
  have hl := (op_len Tryz.underlying34 h).trans c34
  match cs, hl, h with
  | [v0, v1, v2, v3, v4], _, h =>
    have ⟨n0, e0⟩ := op_fint Tryz.underlying34 h 0 rfl Tryz.underlying3 c3 rfl
    have ⟨n1, e1⟩ := op_fint Tryz.underlying34 h 1 rfl Tryz.underlying3 c3 rfl
    have ⟨n2, e2⟩ := op_fint Tryz.underlying34 h 2 rfl Tryz.underlying3 c3 rfl
    have ⟨n3, e3⟩ := op_fint Tryz.underlying34 h 3 rfl Tryz.underlying3 c3 rfl
    have ⟨n4, e4⟩ := op_fint Tryz.underlying34 h 4 rfl Tryz.underlying3 c3 rfl
    subst e0 e1 e2 e3 e4
    exact ⟨⟨n0, n1, n2, n3, n4⟩, rfl⟩
theorem op_Fleet (fuel : Nat) (cs : List Value) (x : DataW H × List MemPlace) (h : DataW.trod enc Tryz.prog w base spare held fuel 25 cs = some x) : ∃ y, RFleet (whole w) cs y := by
  have hl := (op_len Tryz.underlying25 h).trans c25
  match cs, hl, h with
  | [v0, v1, v2, v3, v4], _, h =>
    have ⟨a0, m0, k0, x0, e0, r0⟩ := op_fsl (R := RStop) Tryz.underlying25 h 0 rfl Tryz.underlying22 c22 c34 (by decide) op_Stop rfl
    have ⟨a1, m1, k1, x1, e1, r1⟩ := op_fsl (R := RS 1 RInt) Tryz.underlying25 h 1 rfl Tryz.underlying23 c23 c26 (by decide) op_Ints rfl
    have ⟨n2, e2⟩ := op_fint Tryz.underlying25 h 2 rfl Tryz.underlying3 c3 rfl
    have ⟨n3, e3⟩ := op_fint Tryz.underlying25 h 3 rfl Tryz.underlying3 c3 rfl
    have ⟨n4, e4⟩ := op_fint Tryz.underlying25 h 4 rfl Tryz.underlying3 c3 rfl
    subst e0 e1 e2 e3 e4
    exact ⟨⟨x0, x1, n2, n3, n4⟩, a0, m0, k0, a1, m1, k1, rfl, r0, r1⟩
end
set_option maxRecDepth 100000 in
theorem tours_contract (H : Type) (enc : TypeId × Value → H) (W : World) (base : Nat) (args : Array Value) (ds gs : List (DataW H)) (before : List MemPlace)
    (hval : ∀ (j : Nat) t v, Tryz.f3.params[j]? = some t → args[j]? = some v → Value.okWide Tryz.prog W .any base t v)
    (hW : DataW.Whole enc Tryz.prog Tryz.f3.params.toList Rows.vanToursSpec.vars false W args.toList ds gs before) :
    Calls Tryz.prog 3 args W fun e W' => ∃ v, e = .returned v ∧ Rows.vanToursSpec.post enc Tryz.prog Tryz.f3 false true false false W args v W' := by
  have hW' := hW
  obtain ⟨p, q, hA0, hV, rfl, hfz, hnd⟩ := hW
  have hA : DataW.TrodAll enc Tryz.prog W 0 (fun _ => true) true Tryz.f3.params.toList args.toList ds p := hA0
  rw [Tryz.params3] at hA hval
  obtain ⟨v0, v1, d0, d1, p0, p1, rfl, rfl, rfl, h0, h1⟩ := trodAll_two hA
  obtain ⟨cs0, rfl, _⟩ := okWide_struct Tryz.underlying25 (hval 0 25 v0 rfl rfl)
  obtain ⟨n0, g0⟩ := h0
  obtain ⟨n1, g1⟩ := h1
  have ⟨f, hf⟩ := op_Fleet n0 _ _ g0
  have ⟨a, n, c, st, e1, hst⟩ := op_slice (R := RInt) Tryz.underlying26 c3 (by decide) op_Int g1
  have hv1 : v1 = .slice a n c := by
    cases v1 with
    | agg cs => 
      have := hval 1 26 _ rfl rfl
      simp [Value.okWide, Tryz.underlying26, Cell.okWide, Cell.ok] at this
    | _ => simpa [Value.cells] using e1
  subst hv1
  refine law_post (tb := 4) laid_t (fun t ht => ?_) rfl rfl (by kernel_rfl) Tryz.underlying4 hW' ?_
  · rw [Tryz.params3] at ht
    simp only [List.mem_cons, List.mem_nil_iff, or_false] at ht
    rcases ht with rfl | rfl
    · exact ⟨by kernel_rfl, of_decide_eq_true (by kernel_rfl)⟩
    · exact ⟨by kernel_rfl, of_decide_eq_true (by kernel_rfl)⟩
  · have hf' : RFleet (whole W) cs0.toList f := hf
    have := cg3 (whole_st W) hf' hst (law f st)
    rw [Array.toArray_toList] at this
    exact this
set_option maxRecDepth 100000 in
theorem tours_lifted (os : Os) (started : os.Started) (H : Type) (enc : TypeId × Value → H) :
    ReturnsInHanded {} Tryz.checked os 3 .any (Rows.vanToursSpec.pre6 enc Tryz.prog Tryz.f3 Rows.vanToursRow.domain false) (Rows.vanToursSpec.post enc Tryz.prog Tryz.f3 false true false false) := by
  refine returnsInHanded_of_change (C := Tryz.checked) own_t started (by kernel_rfl) Tryz.func3
    (ChangeSpec.witness6 (enc := enc) (C := Tryz.checked) false ⟨#[], #[.agg #[.slice none 0 0, .slice none 0 0, .int .i64 0, .int .i64 0, .int .i64 0], .slice none 0 0], []⟩ 8 (by kernel_rfl) (by kernel_rfl) (by kernel_rfl) (by kernel_rfl)) ?_
  intro W base args ds gs before hval0 hW hcnd _
  exact tours_contract H enc W base args ds gs before hval0 hW
theorem vanTours_holds : Rows.VanToursSaid :=
  OpenClaim.holds_of_wide 3 Tryz.f3 rfl rfl rfl rfl rfl rfl rfl ⟨rfl, rfl, rfl, rfl, rfl⟩ rfl rfl rfl rfl rfl (by kernel_rfl) Tryz.func3 (by kernel_rfl)
    (of_decide_eq_true (by kernel_rfl)) (by unfold Func.isWrapper; first | (rw [if_pos (by decide +kernel)]; kernel_rfl) | (rw [if_neg (by decide +kernel)]; exact ⟨rfl, rfl⟩))
    (fun os started H enc _ => tours_lifted os started H enc)
#print axioms vanTours_holds
end Go.Proofs.YtdhhimfcjoclfaaGreat
