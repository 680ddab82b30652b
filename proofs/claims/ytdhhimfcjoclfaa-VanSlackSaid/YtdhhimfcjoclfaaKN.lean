/- slices.Sort and slices.Compact at numbers, at an owned row; no program is named here. -/
import Derived.Test.YtdhhimfcjoclfaaKQ
import Derived.Shelf.SortM.Plain
import Derived.Shelf.SortM.SortNone
import Derived.Shelf.Slices.CompactI
set_option linter.unusedVariables false
set_option linter.unusedSimpArgs false
namespace Go.K
open Go Go.Shelf Go.Proofs
def ins (x : Int) : List Int → List Int
  | [] => [x]
  | y :: r => bif decide (x ≤ y) then x :: y :: r else y :: ins x r
def sorted : List Int → List Int
  | [] => []
  | x :: r => ins x (sorted r)
theorem ins_perm (x : Int) : ∀ l : List Int, (ins x l).Perm (x :: l)
  | [] => .refl _
  | y :: r => by
    unfold ins
    cases decide (x ≤ y) with
    | true => exact .refl _
    | false => exact ((ins_perm x r).cons y).trans (.swap x y r)
theorem sorted_perm : ∀ l : List Int, (sorted l).Perm l
  | [] => .refl _
  | x :: r => (ins_perm x _).trans ((sorted_perm r).cons x)
theorem ins_sorted (x : Int) : ∀ {l : List Int}, l.Pairwise (· ≤ ·) → (ins x l).Pairwise (· ≤ ·)
  | [], _ => by simp [ins]
  | y :: r, h => by
    unfold ins
    have h' := List.pairwise_cons.1 h
    cases hc : decide (x ≤ y) with
    | true =>
      have hxy : x ≤ y := by simpa using hc
      refine List.pairwise_cons.2 ⟨fun z hz => ?_, h⟩
      cases hz with
      | head => exact hxy
      | tail _ hz => exact Int.le_trans hxy (h'.1 z hz)
    | false =>
      have hxy : ¬ x ≤ y := by simpa using hc
      refine List.pairwise_cons.2 ⟨fun z hz => ?_, ins_sorted x h'.2⟩
      rcases List.mem_cons.1 ((ins_perm x r).mem_iff.1 hz) with rfl | hz
      · omega
      · exact h'.1 z hz
theorem sorted_sorted : ∀ l : List Int, (sorted l).Pairwise (· ≤ ·)
  | [] => .nil
  | x :: r => ins_sorted x (sorted_sorted r)
theorem sorted_length (zs : List Int) : (sorted zs).length = zs.length := (sorted_perm zs).length_eq
theorem sorted_eq (zs : List Int) : (zs.mergeSort fun x y => decide (x ≤ y)) = sorted zs := by
  refine List.Perm.eq_of_pairwise (le := (· ≤ ·)) (fun a b _ _ h1 h2 => Int.le_antisymm h1 h2) ?_ (sorted_sorted zs) ((List.mergeSort_perm _ _).trans (sorted_perm zs).symm)
  have h := List.pairwise_mergeSort (le := fun x y : Int => decide (x ≤ y)) (fun a b c h1 h2 => by simp at *; omega) (fun a b => by simp; omega) zs
  exact h.imp fun h => by simpa using h
def mSort (_ : Nat) (zs : List Int) : Option (List Int) := chk (lim zs.length) (some (sorted zs))
def mCompact (_ : Nat) (zs : List Int) : Option (List Int) := chk (lim zs.length) (some (Lib.compact zs))
theorem putRow_row {w w' : World} {m : Mem} {L : List Atom} {g n c k : Nat} {e : TypeId} {zs ys : List Int} (h1 : St w m (.row (.slice (some ⟨g, 0, none⟩) n c) e 1 (nums zs) :: L)) (hn : n = zs.length) (hy : ys.length = zs.length) (hk : k ≤ n) (q : Nat) (os : Array Obj)
    (hw : w' = «Sort».grow («Sort».putRow (Value.int .i64) («Sort».ahead w q) g 0 ys.toArray) os) : St w' m (.row (.slice (some ⟨g, 0, none⟩) k c) e 1 (nums (ys.take k)) :: L) := by
  subst hw hn
  have hok : RowOk w (.slice (some ⟨g, 0, none⟩) zs.length c) e 1 (nums zs) := h1.ok _ (.head _)
  rcases (row_nn hok).2 with ⟨hv, _⟩ | ⟨g', cap, cur, hv, hg0, hg, h5, h6, h7, h8⟩
  · cases hv
  · injection hv with e1 e2 e3
    injection e1 with e1
    injection e1 with e1
    subst e1 e3
    have hcur : ∀ j : Nat, j < zs.length → cur[j]? = some (.int .i64 zs[j]!) := fun j hj => by
      have h9 : (nums zs)[j]? = some (.int .i64 zs[j]!) := by simp [nums, hj, getElem!_pos zs j hj]
      rw [← h8, List.getElem?_take, if_pos (by omega)] at h9
      simpa using h9
    have hg' : («Sort».grow («Sort».putRow (Value.int .i64) («Sort».ahead w q) g 0 ys.toArray) os).heap[g]? = some (.cells («Sort».putCells (Value.int .i64) 0 ys.toArray cur) e (0, 0)) := by
      have hlt := (Array.getElem?_eq_some_iff.1 hg).1
      simp only [«Sort».grow, «Sort».putRow, «Sort».mapBlock, «Sort».ahead]
      rw [Array.getElem?_append_left (by simpa using hlt), Array.getElem?_modify, if_pos rfl, hg]
      rfl
    refine h1.swap .here rfl rfl rfl (fun b hb => .inl hb) ⟨k, ?_, .inr ⟨g, c, _, rfl, hg0, hg', by omega, h6, ?_, ?_⟩⟩ fun b hb hne => ?_
    · simp [nums_length, hy]; omega
    · simp [«Sort».putCells, h7]
    · apply List.ext_getElem?
      intro j
      rw [List.getElem?_take]
      by_cases hj : j < k * 1
      · have hj' : j < zs.length := by omega
        have hc := hcur j hj'
        simp only [hj, if_true, «Sort».putCells, Array.getElem?_toList, Array.getElem?_mapIdx, hc, Option.map_some, List.size_toArray, hy, Nat.zero_add, Nat.zero_le, true_and, hj', Nat.sub_zero, nums, List.getElem?_map, List.getElem?_take]
        rw [if_pos (by omega), List.getElem?_eq_getElem (by omega)]
        simp [getElem!_pos, hy, hj']
      · rw [if_neg hj, List.getElem?_eq_none (by rw [nums_length, List.length_take]; omega)]
    · have hne' : g ≠ b := fun e => hne (by subst e; rfl)
      simp only [«Sort».grow, «Sort».putRow, «Sort».mapBlock, «Sort».ahead]
      rw [Array.getElem?_append_left (by simpa using hb), Array.getElem?_modify, if_neg hne']
theorem row_holds {w : World} {m : Mem} {L : List Atom} {g n c : Nat} {e : TypeId} {zs : List Int} (h1 : St w m (.row (.slice (some ⟨g, 0, none⟩) n c) e 1 (nums zs) :: L)) (hn : n = zs.length) : «Sort».Holds (Value.int .i64) w g 0 zs.toArray ∧ g < w.heap.size := by
  subst hn
  have hok : RowOk w (.slice (some ⟨g, 0, none⟩) zs.length c) e 1 (nums zs) := h1.ok _ (.head _)
  rcases (row_nn hok).2 with ⟨hv, _⟩ | ⟨g', cap, cur, hv, hg0, hg, h5, h6, h7, h8⟩
  · cases hv
  · injection hv with e1 e2 e3
    injection e1 with e1
    injection e1 with e1
    subst e1 e3
    refine ⟨fun j hj => ?_, (Array.getElem?_eq_some_iff.1 hg).1⟩
    simp only [List.size_toArray] at hj
    have h9 : (nums zs)[j]? = some (.int .i64 zs[j]!) := by simp [nums, hj, getElem!_pos zs j hj]
    rw [← h8, List.getElem?_take, if_pos (by omega)] at h9
    have h10 : cur[j]? = some (.int .i64 zs[j]!) := by simpa using h9
    refine ⟨?_, ?_⟩
    · simp only [World.cell?, hg]; simpa using h10
    · simp [World.frozen?, hg]
theorem row_cases {w : World} {m : Mem} {L : List Atom} {a : Option Addr} {n c : Nat} {e : TypeId} {cs : List Value} (h1 : St w m (.row (.slice a n c) e 1 cs :: L)) : (a = none ∧ n = 0 ∧ c = 0) ∨ ∃ g, a = some ⟨g, 0, none⟩ := by
  have hok : RowOk w (.slice a n c) e 1 cs := h1.ok _ (.head _)
  rcases (row_nn hok).2 with ⟨hv, _⟩ | ⟨g', cap, cur, hv, _⟩
  · injection hv with e1 e2 e3; exact .inl ⟨e1, e2, e3⟩
  · injection hv with e1 e2 e3; exact .inr ⟨_, e1⟩
theorem sort_row {P : Program} {ρ : Ren} (Ly : SlLaysM.n5 P ρ) {w : World} {m : Mem} {L : List Atom} {a : Option Addr} {n c : Nat} {e : TypeId} {zs r : List Int} {cs : List Value} (hS : St w m (.row (.slice a n c) e 1 cs :: L)) (hr : RCs 1 RInt m cs zs) {fuel : Nat} (hM : mSort fuel zs = some r) :
    Calls P (ρ.f 5) [.slice a n c].toArray w (Ret fun v w' => ∃ cs0 : List Value, v = .tuple #[] ∧ n = r.length ∧ RCs 1 RInt m cs0 r ∧ St w' m (.row (.slice a n c) e 1 cs0 :: L)) := by
  obtain ⟨hlim, hM⟩ := chk_ok hM
  obtain rfl := some_eq hM
  have hlim := lim_le hlim
  obtain rfl := RCs_int hr
  have hok : RowOk w (.slice a n c) e 1 (nums zs) := hS.ok _ (.head _)
  have hlen := row_n hok hr (by decide)
  rcases row_cases hS with ⟨rfl, h0, rfl⟩ | ⟨g, rfl⟩
  · have hz : zs = [] := List.eq_nil_of_length_eq_zero (by omega)
    subst hz hlen
    refine Calls.mono (AnyM.slices_Sort_int_none Ly none 0 w) fun en w' hh => ?_
    obtain ⟨rfl, rfl⟩ := hh
    exact ⟨_, rfl, by simp [sorted_length], by simpa [sorted] using hr, hS⟩
  · obtain ⟨hH, hb⟩ := row_holds hS hlen
    subst hlen
    refine Calls.mono (AnyM.slices_Sort_int Ly g 0 c zs w hH hb (by omega)) fun en w' hh => ?_
    obtain ⟨rfl, k, os, hw⟩ := hh
    rw [sorted_eq] at hw
    have h2 := putRow_row (k := zs.length) hS rfl (sorted_length zs) (Nat.le_refl _) k os hw
    rw [List.take_of_length_le (by rw [sorted_length]; exact Nat.le_refl _)] at h2
    exact ⟨_, rfl, (sorted_length zs).symm, RCs_nums _, h2⟩
theorem grow_nil (w : World) : «Sort».grow w #[] = w := by simp [«Sort».grow]
theorem compact_len (zs : List Int) : (Lib.compact zs).length ≤ zs.length := by
  unfold Lib.compact Lib.compactUpTo
  rw [List.length_map]
  exact Nat.le_trans (List.length_filter_le _ _) (by simp)
theorem compact_row {P : Program} {ρ : Ren} (Ly : Lays2.n20 P ρ) {w : World} {m : Mem} {L : List Atom} {a : Option Addr} {n c : Nat} {e : TypeId} {zs r : List Int} {cs : List Value} (hS : St w m (.row (.slice a n c) e 1 cs :: L)) (hr : RCs 1 RInt m cs zs) {fuel : Nat} (hM : mCompact fuel zs = some r) :
    Calls P (ρ.f 20) [.slice a n c].toArray w (Ret fun v w' => ∃ (a0 : Option Addr) (n0 c0 : Nat) (cs0 : List Value), v = .slice a0 n0 c0 ∧ n0 = r.length ∧ RCs 1 RInt m cs0 r ∧ St w' m (.row (.slice a0 n0 c0) e 1 cs0 :: L)) := by
  obtain ⟨hlim, hM⟩ := chk_ok hM
  obtain rfl := some_eq hM
  have hlim := lim_le hlim
  obtain rfl := RCs_int hr
  have hok : RowOk w (.slice a n c) e 1 (nums zs) := hS.ok _ (.head _)
  have hlen := row_n hok hr (by decide)
  have hcap := (row_cap hok).1
  rcases row_cases hS with ⟨rfl, h0, rfl⟩ | ⟨g, rfl⟩
  · have hz : zs = [] := List.eq_nil_of_length_eq_zero (by omega)
    subst hz hlen
    refine Calls.mono (Any.slices_Compact_int_empty Ly none 0 w) fun en w' hh => ?_
    obtain ⟨rfl, rfl⟩ := hh
    exact ⟨_, _, _, _, rfl, rfl, hr, hS⟩
  · obtain ⟨hH, hb⟩ := row_holds hS hlen
    subst hlen
    refine Calls.mono (Any.slices_Compact_int Ly g 0 c zs w hH (by omega) hcap) fun en w' hh => ?_
    obtain ⟨rfl, k, hw⟩ := hh
    have hle := compact_len zs
    rw [← grow_nil («Sort».putRow _ _ _ _ _)] at hw
    have h2 := putRow_row (k := (Lib.compact zs).length) hS rfl (by simp; omega) hle k #[] hw
    rw [List.take_left'  rfl] at h2
    exact ⟨_, _, _, _, rfl, rfl, RCs_nums _, h2⟩
end Go.K
