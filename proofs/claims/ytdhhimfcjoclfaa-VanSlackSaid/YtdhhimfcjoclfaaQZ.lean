/- Proved here: the statement VanSlack of layer 10: at every two lists of bytes foldhouselaw10.VanSlack returns true, and the arguments read behind the call as before it. Conditions: none (the statement of the first form, for arguments of any size). -/
import Derived.Test.YtdhhimfcjoclfaaRows
import Derived.Test.YtdhhimfcjoclfaaKR
import Derived.Test.YtdhhimfcjoclfaaVA3
import Derived.Test.YtdhhimfcjoclfaaQF
set_option linter.unusedVariables false
set_option linter.unusedSimpArgs false
set_option linter.unnecessarySimpa false
set_option linter.constructorNameAsVariable false
namespace Go.Proofs.Ytdhhimfcjoclfaa
open Go Go.K Go.V Go.ChangeShapes Go.WideShapes Go.RowKit

theorem own_t : ownKnob Try.prog.godebug = none := by kernel_rfl
theorem laid_t : laidOutB Try.prog = true := by kernel_rfl
def RU8 (_ : Mem) (cs : List Value) (x : Int) : Prop := cs = [.int .u8 x] ∧ 0 ≤ x ∧ x ≤ 255
theorem c5 : Try.prog.cellsOf 5 = 1 := by kernel_rfl
section
variable {H : Type} {enc : TypeId × Value → H} {w : World} {base : Nat} {spare : Nat → Bool} {held : Bool}
theorem op_U8 (fuel : Nat) (cs : List Value) (x : DataW H × List MemPlace) (h : DataW.trod enc Try.prog w base spare held fuel 5 cs = some x) : ∃ y, RU8 (whole w) cs y := by
  obtain ⟨n, h1, _, h2⟩ := DataW.trod_int Try.underlying5 h
  have hb : 0 ≤ n ∧ n ≤ 255 := by simpa [Lit.wf, IntKind.min, IntKind.max, IntKind.signed, IntKind.bits] using h2
  exact ⟨n, h1, hb⟩
end
theorem u8_split {m : Mem} {a : Option Addr} {n c : Nat} {xs : List Int} (h : RSl 1 RU8 m a n c xs) : RSl 1 (RIntK .u8) m a n c xs ∧ U8 xs := by
  obtain ⟨h1, h2, h3, h4⟩ := h
  refine ⟨⟨h1, h2, h3, fun hn => ?_⟩, fun x hx => ?_⟩
  · obtain ⟨b, o, ha, hh⟩ := h4 hn
    refine ⟨b, o, ha, fun i x hx => ?_⟩
    obtain ⟨cs, k1, k2, k3⟩ := hh i x hx
    exact ⟨cs, k1, k2, k3.1⟩
  · obtain ⟨i, hi, he⟩ := List.getElem_of_mem hx
    obtain ⟨b, o, ha, hh⟩ := h4 (by omega)
    obtain ⟨cs, k1, k2, k3⟩ := hh i x (by rw [List.getElem?_eq_getElem hi, he])
    exact k3.2
theorem slice_val {H : Type} {enc : TypeId × Value → H} {W : World} {base : Nat} {v : Value} {a : Option Addr} {n c : Nat} (hv : Value.okWide Try.prog W .any base 22 v) (e : v.cells.toList = [.slice a n c]) : v = .slice a n c := by
  cases v with
  | agg cs => simp [Value.okWide, Try.underlying22, Cell.okWide, Cell.ok] at hv
  | _ => simpa [Value.cells] using e
set_option maxRecDepth 100000 in
theorem slack_contract (H : Type) (enc : TypeId × Value → H) (W : World) (base : Nat) (args : Array Value) (ds gs : List (DataW H)) (before : List MemPlace)
    (hval : ∀ (j : Nat) t v, Try.f4.params[j]? = some t → args[j]? = some v → Value.okWide Try.prog W .any base t v)
    (hW : DataW.Whole enc Try.prog Try.f4.params.toList Rows.vanSlackSpec.vars false W args.toList ds gs before) :
    Calls Try.prog 4 args W fun e W' => ∃ v, e = .returned v ∧ Rows.vanSlackSpec.post enc Try.prog Try.f4 false true false false W args v W' := by
  have hW' := hW
  obtain ⟨p, q, hA0, hV, rfl, hfz, hnd⟩ := hW
  have hA : DataW.TrodAll enc Try.prog W 0 (fun _ => true) true Try.f4.params.toList args.toList ds p := hA0
  rw [Try.params4] at hA hval
  obtain ⟨v0, v1, d0, d1, p0, p1, rfl, rfl, rfl, h0, h1⟩ := trodAll_two hA
  obtain ⟨n0, g0⟩ := h0
  obtain ⟨n1, g1⟩ := h1
  have ⟨a, n, c, l, e0, hl⟩ := op_slice (R := RU8) Try.underlying22 c5 (by decide) op_U8 g0
  have ⟨a', n', c', m, e1, hm⟩ := op_slice (R := RU8) Try.underlying22 c5 (by decide) op_U8 g1
  obtain rfl := slice_val (enc := enc) (hval 0 22 v0 rfl rfl) e0
  obtain rfl := slice_val (enc := enc) (hval 1 22 v1 rfl rfl) e1
  have ⟨hl1, hl2⟩ := u8_split hl
  have ⟨hm1, hm2⟩ := u8_split hm
  refine law_post (tb := 4) laid_t (fun t ht => ?_) rfl rfl (by kernel_rfl) Try.underlying4 hW' ?_
  · rw [Try.params4] at ht
    simp only [List.mem_cons, List.mem_nil_iff, or_false] at ht
    rcases ht with rfl | rfl
    · exact ⟨by kernel_rfl, of_decide_eq_true (by kernel_rfl)⟩
    · exact ⟨by kernel_rfl, of_decide_eq_true (by kernel_rfl)⟩
  · exact cg4 (whole_st W) hl1 hm1 (law hl2 hm2)
set_option maxRecDepth 100000 in
theorem slack_lifted (os : Os) (started : os.Started) (H : Type) (enc : TypeId × Value → H) :
    ReturnsInHanded {} Try.checked os 4 .any (Rows.vanSlackSpec.pre6 enc Try.prog Try.f4 Rows.vanSlackRow.domain false) (Rows.vanSlackSpec.post enc Try.prog Try.f4 false true false false) := by
  refine returnsInHanded_of_change (C := Try.checked) own_t started (by kernel_rfl) Try.func4
    (ChangeSpec.witness6 (enc := enc) (C := Try.checked) false ⟨#[], #[.slice none 0 0, .slice none 0 0], []⟩ 8 (by kernel_rfl) (by kernel_rfl) (by kernel_rfl) (by kernel_rfl)) ?_
  intro W base args ds gs before hval0 hW hcnd _
  exact slack_contract H enc W base args ds gs before hval0 hW
theorem vanSlack_holds : Rows.VanSlackSaid :=
  OpenClaim.holds_of_wide 4 Try.f4 rfl rfl rfl rfl rfl rfl rfl ⟨rfl, rfl, rfl, rfl, rfl⟩ rfl rfl rfl rfl rfl (by kernel_rfl) Try.func4 (by kernel_rfl)
    (of_decide_eq_true (by kernel_rfl)) (by unfold Func.isWrapper; first | (rw [if_pos (by decide +kernel)]; kernel_rfl) | (rw [if_neg (by decide +kernel)]; exact ⟨rfl, rfl⟩))
    (fun os started H enc _ => slack_lifted os started H enc)
#print axioms vanSlack_holds
end Go.Proofs.Ytdhhimfcjoclfaa
