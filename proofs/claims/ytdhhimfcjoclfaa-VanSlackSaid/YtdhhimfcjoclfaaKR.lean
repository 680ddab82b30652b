/- From readings of arguments to relations over a frozen memory, and the row of a law; no program is named here. -/
import Derived.Test.YtdhhimfcjoclfaaKC
import Derived.ProofKit
import Derived.Deep.Slices
set_option linter.unusedVariables false
set_option linter.unusedSimpArgs false
namespace Go.K
open Go Go.ChangeShapes Go.WideShapes Go.RowKit
def whole (w : World) : Mem := ⟨fun b => w.heap[b]?, w.os, w.tape, w.output⟩
theorem whole_st (w : World) : St w (whole w) [] where
  imm := fun _ _ h => h
  ok := fun A hA => by cases hA
  sep := fun A hA => by cases hA
  dis := .nil
  os := rfl
  tape := rfl
  output := rfl
theorem whole_below {w w' : World} (h : St w' (whole w) []) : Below w.heap.size w w' where
  os := h.os
  tape := h.tape
  output := h.output
  size := by
    rcases Nat.eq_zero_or_pos w.heap.size with h0 | h0
    · omega
    · have hlt : w.heap.size - 1 < w.heap.size := by omega
      have := h.imm (w.heap.size - 1) w.heap[w.heap.size - 1] (Array.getElem?_eq_getElem hlt)
      have := (Array.getElem?_eq_some_iff.1 this).1
      omega
  block := fun k hk => by
    rw [h.imm k w.heap[k] (Array.getElem?_eq_getElem hk), Array.getElem?_eq_getElem hk]
section
variable {H : Type} {enc : TypeId × Value → H} {P : Program} {w : World} {base : Nat} {spare : Nat → Bool} {held : Bool}
theorem cell_add {a : Addr} {k : Nat} {v : Value} (h : w.cell? (a.add k) = some v) : (∃ arr e fr, w.heap[a.block]? = some (.cells arr e fr) ∧ arr[a.off + k]? = some v) ∧ (k = 0 → a.spot = none) := by
  unfold Addr.add at h
  by_cases hk : k = 0
  · subst hk
    rw [if_pos rfl] at h
    unfold World.cell? at h
    split at h
    · rename_i arr e fr he
      cases hs : a.spot with
      | none => rw [hs] at h; exact ⟨⟨arr, e, fr, he, by simpa using h⟩, fun _ => rfl⟩
      | some _ => rw [hs] at h; simp at h
    · cases h
  · rw [if_neg hk] at h
    unfold World.cell? at h
    split at h
    · rename_i arr e fr he
      exact ⟨⟨arr, e, fr, he, by simpa using h⟩, fun h0 => absurd h0 hk⟩
    · cases h
theorem list_of {α : Type} {Q : Nat → α → Prop} : ∀ {n : Nat}, (∀ i, i < n → ∃ x, Q i x) → ∃ xs : List α, xs.length = n ∧ ∀ i x, xs[i]? = some x → Q i x
  | 0, _ => ⟨[], rfl, fun i x h => by simp at h⟩
  | n + 1, h => by
    have ⟨xs, h1, h2⟩ := list_of (n := n) fun i hi => h i (by omega)
    have ⟨y, hy⟩ := h n (by omega)
    refine ⟨xs ++ [y], by simp [h1], fun i x hx => ?_⟩
    rcases Nat.lt_trichotomy i n with hi | hi | hi
    · rw [List.getElem?_append_left (by omega)] at hx; exact h2 i x hx
    · subst hi
      rw [List.getElem?_append_right (by omega), h1, Nat.sub_self] at hx
      simp at hx; subst hx; exact hy
    · rw [List.getElem?_eq_none (by simp; omega)] at hx; cases hx
theorem op_slice {α : Type} {R : Mem → List Value → α → Prop} {s : Nat} {t e : TypeId} (ht : P.underlying t = some (.slice e)) (hc : P.cellsOf e = s) (hs : 0 < s)
    (he : ∀ (fuel : Nat) (cs : List Value) (x : DataW H × List MemPlace), DataW.trod enc P w base spare held fuel e cs = some x → ∃ y, R (whole w) cs y)
    {fuel : Nat} {cs : List Value} {x : DataW H × List MemPlace} (h : DataW.trod enc P w base spare held fuel t cs = some x) : ∃ (a : Option Addr) (n c : Nat) (xs : List α), cs = [.slice a n c] ∧ RSl s R (whole w) a n c xs := by
  rcases DataW.trod_slice ht h with ⟨rfl, _⟩ | ⟨a, len, cap, elems, rest, n, _, rfl, _, hb, hl, hm, hel, hat, _⟩
  · exact ⟨none, 0, 0, [], rfl, rfl, by omega, Nat.le_refl _, fun h => absurd h (by omega)⟩
  · have each : ∀ i, i < len → ∃ y : α, a.spot = none ∧ ∃ cs', cs'.length = s ∧ Imm (whole w) a.block (a.off + i * s) cs' ∧ R (whole w) cs' y := by
      intro i hi
      have h0 : ∀ i, i < len → ∃ cs', cs'.length = s ∧ (∀ j, j < s → w.cell? ((a.add (i * s)).add j) = cs'[j]?) ∧ ∃ y, R (whole w) cs' y := by
        intro i hi
        have h1 := hat i hi
        rw [List.getElem?_eq_getElem (by omega)] at h1
        obtain ⟨cs', h2, h3⟩ := Option.bind_eq_some_iff.1 h1
        have ⟨_, h4, h5⟩ := World.cells?_some h2
        rw [hc] at h4 h5
        exact ⟨cs', h4, h5, he _ _ _ h3⟩
      have hspot : a.spot = none := by
        have ⟨cs', h4, h5, _⟩ := h0 0 (by omega)
        have h6 := h5 0 hs
        rw [List.getElem?_eq_getElem (by omega), Nat.zero_mul] at h6
        exact (cell_add (a := a) (k := 0) h6).2 rfl
      have ⟨cs', h4, h5, y, hy⟩ := h0 i hi
      refine ⟨y, hspot, cs', h4, ?_, hy⟩
      have h6 := h5 0 hs
      rw [Go.Deep.add_add, List.getElem?_eq_getElem (by omega)] at h6
      obtain ⟨⟨arr, e', fr, k1, _⟩, _⟩ := cell_add h6
      refine ⟨arr, e', fr, k1, fun j v hj => ?_⟩
      have hjs : j < s := by have := (List.getElem?_eq_some_iff.1 hj).1; omega
      have h7 := h5 j hjs
      rw [Go.Deep.add_add, hj] at h7
      obtain ⟨⟨arr', e'', fr', k2, k3⟩, _⟩ := cell_add h7
      rw [k1] at k2
      cases k2
      rw [← k3, Nat.add_assoc]
    have ⟨xs, x1, x2⟩ := list_of each
    refine ⟨some a, len, cap, xs, rfl, x1, Nat.le_trans hl (Nat.le_trans hm (by decide)), hl, fun hpos => ⟨a.block, a.off, ?_, fun i x hx => (x2 i x hx).2⟩⟩
    have ⟨_, hsp, _⟩ := each 0 hpos
    cases a
    simp only at hsp
    subst hsp
    rfl
theorem args_stay (hl : laidOutB P = true) {W W' : World} (hb : Below W.heap.size W W') {sp : Nat → Bool} : ∀ (ts : List TypeId) (vs : List Value) (ds : List (DataW H)) (ps : List MemPlace), (∀ t ∈ ts, P.readableRec t = true ∧ t < P.types.size) →
    DataW.TrodAll enc P W 0 (fun _ => true) true ts vs ds ps → (∀ x ∈ ps, x.block < W.heap.size) → (∀ x ∈ ps, sp x.block = true) → DataW.TrodAll enc P W' 0 sp true ts vs ds ps
  | [], [], [], ps, _, h, _, _ => h
  | t :: ts, v :: vs, d :: ds, ps, hr, h, hlt, hsp => by
    obtain ⟨p, q, h1, h2, rfl⟩ := h
    exact ⟨p, q, WideElems.Trod_stays hl (hr t (.head _)).1 (hr t (.head _)).2 h1 (fun x hx => hb.same (hlt x (List.mem_append_left _ hx))) (fun x hx => hsp x (List.mem_append_left _ hx)),
      args_stay hl hb ts vs ds q (fun t ht => hr t (.tail _ ht)) h2 (fun x hx => hlt x (List.mem_append_right _ hx)) (fun x hx => hsp x (List.mem_append_right _ hx)), rfl⟩
  | [], _ :: _, _, _, _, h, _, _ => by cases h
  | [], [], _ :: _, _, _, h, _, _ => by cases h
  | _ :: _, [], _, _, _, h, _, _ => by cases h
  | _ :: _, _ :: _, [], _, _, h, _, _ => by cases h
end
theorem law_post {H : Type} {enc : TypeId × Value → H} {P : Program} {f : Func} {s : ChangeSpec} {k : FuncId} {tb : TypeId} {W : World} {args : Array Value} {ds gs : List (DataW H)} {before : List MemPlace}
    (hl : laidOutB P = true) (hr : ∀ t ∈ f.params.toList, P.readableRec t = true ∧ t < P.types.size) (hv : s.vars = []) (hs : s.fn H ds = { results := [.lit (.bool true)], args := ds }) (hres : f.resultTypes = #[tb]) (htb : P.underlying tb = some .bool)
    (hW : DataW.Whole enc P f.params.toList s.vars false W args.toList ds gs before) (hc : Calls P k args W (Ret fun v w' => v = .bool true ∧ St w' (whole W) [])) :
    Calls P k args W fun e W' => ∃ v, e = .returned v ∧ s.post enc P f false true false false W args v W' := by
  have hlt := hW.lt
  have hW' := hW
  obtain ⟨p, q, hA, hV, rfl, hfz, hnd⟩ := hW
  rw [hv] at hV
  obtain ⟨rfl, rfl⟩ := trodVars_none hV
  refine hc.mono fun e W' he => ?_
  cases e with
  | returned v =>
    obtain ⟨rfl, hst⟩ := he
    have hb := whole_below hst
    refine ⟨_, rfl, ds, [], p ++ [], [], p, [], hW', ?_, ?_, ?_, hb.frame _, fun h => by cases h⟩
    · rw [hres, List.append_nil, hs]
      exact trodAll_mk1 (shut_bool htb _)
    · rw [List.append_nil, hs]
      exact args_stay hl hb _ _ _ _ hr hA (fun x hx => hlt x (List.mem_append_left _ hx)) (fun x hx => decide_eq_true (hlt x (List.mem_append_left _ hx)))
    · rw [hv, List.append_nil, hs]
      exact rfl
  | _ => exact he.elim
end Go.K
