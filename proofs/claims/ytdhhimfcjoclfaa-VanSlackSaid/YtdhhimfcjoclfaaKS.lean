/- slices.Insert at an owned row of numbers; tables whose rows are owned; no program is named here. -/
import Derived.Test.YtdhhimfcjoclfaaKN
import Derived.Shelf.Spec.SlicesInsert
import Derived.Shelf.Spec.SlicesInsertGrow
set_option linter.unusedVariables false
set_option linter.unusedSimpArgs false
namespace Go.K
open Go Go.Shelf Go.Proofs
theorem setCells_heap {b : Nat} {e : TypeId} {fr : Nat × Nat} : ∀ (vs : List Value) (o : Nat) (w : World) (cur : List Value), w.heap[b]? = some (.cells cur.toArray e fr) → o + vs.length ≤ cur.length →
    (w.setCells b o vs).os = w.os ∧ (w.setCells b o vs).tape = w.tape ∧ (w.setCells b o vs).output = w.output ∧
    (w.setCells b o vs).heap[b]? = some (.cells (cur.take o ++ (vs ++ cur.drop (o + vs.length))).toArray e fr) ∧ ∀ b', b' ≠ b → (w.setCells b o vs).heap[b']? = w.heap[b']?
  | [], o, w, cur, h, hl => ⟨rfl, rfl, rfl, by simp [World.setCells, h], fun _ _ => rfl⟩
  | v :: r, o, w, cur, h, hl => by
    simp only [List.length_cons] at hl
    have h1 : (w.setCell ⟨b, o, none⟩ v).heap[b]? = some (.cells (cur.set o v).toArray e fr) := by
      simp only [World.setCell, Array.getElem?_modify]
      rw [if_pos trivial, h]
      simp
    have ⟨a1, a2, a3, a4, a5⟩ := setCells_heap r (o + 1) (w.setCell ⟨b, o, none⟩ v) _ h1 (by simp; omega)
    refine ⟨a1, a2, a3, ?_, fun b' hb => ?_⟩
    · rw [World.setCells, a4]
      congr 3
      have e1 : (cur.set o v).take (o + 1) = cur.take o ++ [v] := by
        rw [List.take_add_one, List.getElem?_set_self (by omega), List.take_set_of_le (Nat.le_refl _)]; rfl
      have e2 : (cur.set o v).drop (o + 1 + r.length) = cur.drop (o + (r.length + 1)) := by
        rw [List.drop_set_of_lt (by omega)]; congr 1; omega
      rw [e1, e2]
      simp
    · rw [World.setCells, a5 b' hb]
      simp only [World.setCell, Array.getElem?_modify]
      rw [if_neg (fun h => hb h.symm)]
theorem own_cell {w : World} {g : Nat} {cur : Array Value} {cs : List Value} {e : TypeId} {fr : Nat × Nat} {k : Nat} (hg : w.heap[g]? = some (.cells cur e fr)) (ht : cur.toList.take k = cs) : ∀ j v, cs[j]? = some v → w.cell? ⟨g, 0 + j, none⟩ = some v := by
  intro j v hj
  rw [← ht, List.getElem?_take] at hj
  split at hj
  · simpa [World.cell?, hg] using hj
  · cases hj
theorem own_some {w : World} {g : Nat} {cur : Array Value} {e : TypeId} {fr : Nat × Nat} (hg : w.heap[g]? = some (.cells cur e fr)) {j : Nat} (hj : j < cur.size) : (w.cell? ⟨g, j, none⟩).isSome = true := by
  simp [World.cell?, hg, hj]
theorem own_thaw {w : World} {g : Nat} {cur : Array Value} {e : TypeId} (hg : w.heap[g]? = some (.cells cur e (0, 0))) (j : Nat) : w.frozen? ⟨g, j, none⟩ = false := by
  simp [World.frozen?, hg]
def insAt (zs : List Int) (i : Nat) (x : Int) : List Int := zs.take i ++ x :: zs.drop i
theorem insAt_length {zs : List Int} {i : Nat} {x : Int} (hi : i ≤ zs.length) : (insAt zs i x).length = zs.length + 1 := by simp [insAt]; omega
theorem nums_insAt (zs : List Int) (i : Nat) (x : Int) : nums (insAt zs i x) = (nums zs).take i ++ .int .i64 x :: (nums zs).drop i := by simp [nums, insAt]
theorem row_fin {w w' : World} {m : Mem} {L : List Atom} {A : Atom} {g c k : Nat} {e : TypeId} {ys : List Int} {rest : List Value} (hS : St w m (A :: L)) (hos : w'.os = w.os) (ht : w'.tape = w.tape) (ho : w'.output = w.output)
    (hb : A.blk = some g ∨ w.heap.size ≤ g) (hg : w'.heap[g]? = some (.cells (nums ys ++ rest).toArray e (0, 0))) (hk : ys.length = k) (hkc : k ≤ c) (hc : c ≤ maxLen) (hsz : k + rest.length = c)
    (hsame : ∀ b, b < w.heap.size → A.blk ≠ some b → w'.heap[b]? = w.heap[b]?) : St w' m (.row (.slice (some ⟨g, 0, none⟩) k c) e 1 (nums ys) :: L) := by
  refine hS.swap .here hos ht ho (fun b h => ?_) ⟨k, ?_, .inr ⟨g, c, _, rfl, Nat.zero_le _, hg, hkc, hc, ?_, ?_⟩⟩ hsame
  · cases h; exact hb
  · rw [nums_length]; omega
  · simp [nums_length]; omega
  · simp [nums_length, hk]
theorem insert_row {P : Program} {ρ : Ren} (Ly : Lays2.n21 P ρ) {w : World} {m : Mem} {L : List Atom} {a : Option Addr} {n c vb vc i : Nat} {e2 : TypeId} {zs : List Int} {x : Int}
    (hS : St w m (.row (.slice a n c) (ρ.t 3) 1 (nums zs) :: .row (.slice (some ⟨vb, 0, none⟩) 1 vc) e2 1 [.int .i64 x] :: L)) (hi : i ≤ zs.length) (hl : zs.length + 1 ≤ 1000000000) :
    Calls P (ρ.f 21) #[.slice a n c, .int .i64 i, .slice (some ⟨vb, 0, none⟩) 1 vc] w (Ret fun v w' => ∃ a' c', v = .slice a' (zs.length + 1) c' ∧
      St w' m (.row (.slice a' (zs.length + 1) c') (ρ.t 3) 1 (nums (insAt zs i x)) :: .row (.slice (some ⟨vb, 0, none⟩) 1 vc) e2 1 [.int .i64 x] :: L)) := by
  have r0 := row_nn (hS.ok _ (.head _))
  have r1 := row_nn (hS.ok _ (.tail _ (.head _)))
  have hn : n = zs.length := by have := r0.1; rw [nums_length] at this; omega
  subst hn
  have hm : (1000000000 : Nat) ≤ maxLen := by decide
  have hm8 : (1000000000 : Nat) * 8 ≤ 140737488355328 := by decide
  have h1v : ∀ v ∈ [Value.int .i64 x], v.oneCell' = true := by simp [Value.oneCell']
  have h1c : ∀ v ∈ nums zs, v.oneCell' = true := fun v hv => by
    simp only [nums, List.mem_map] at hv
    obtain ⟨z, _, rfl⟩ := hv
    rfl
  rcases r1.2 with ⟨hv1, _⟩ | ⟨g1, cap1, cur1, hv1, _, hg1, hc1, _, hsz1, ht1⟩
  · cases hv1
  injection hv1 with e1 e2' e3
  injection e1 with e1
  injection e1 with e1
  subst e1 e3
  have hvs := own_cell hg1 ht1
  rcases r0.2 with ⟨hv, hn0⟩ | ⟨g, cap, cur, hv, _, hg, hnc, hcm, hsz, htk⟩
  · injection hv with q1 q2 q3
    subst q1 q3
    have hz : zs = [] := List.length_eq_zero_iff.1 hn0
    subst hz
    obtain rfl : i = 0 := by simpa using hi
    refine (Any2.slices_Insert_int_end_grow Ly none 0 0 vb 0 1 vc [] [.int .i64 x] w (by omega) (by omega) (by omega) (by omega) rfl rfl (fun _ => rfl) (fun _ h => by cases h) hvs h1v).mono fun e w' ⟨he, hw⟩ => ?_
    subst he hw
    have hge := grownCap_ge w (0 + 1) 0 (ρ.t 3)
    have hle := grownCap_le_maxLen w (0 + 1) 0 (ρ.t 3) (by omega)
    refine ⟨_, _, rfl, row_fin (rest := (Builtin.zeroCells (Value.int .i64 0).cells (grownCap w (0 + 1) 0 (ρ.t 3) - (0 + 1))).toList) hS rfl rfl rfl (.inr (Nat.le_refl _)) ?_ rfl hge hle ?_ fun b hb _ => ?_⟩
    · rw [show (w.drew.alloc _).heap = w.heap.push _ from rfl, Array.getElem?_push, if_pos rfl]
      congr 2
      apply Array.toList_inj.1
      simp [nums, insAt]
    · have := size_zeroCells (Value.int .i64 0).cells (grownCap w (0 + 1) 0 (ρ.t 3) - (0 + 1))
      simp only [Array.length_toList]
      rw [this]
      simp [Value.cells] at hge ⊢
      omega
    · rw [show (w.drew.alloc _).heap = w.heap.push _ from rfl, Array.getElem?_push, if_neg (by omega)]
  · injection hv with q1 q2 q3
    subst q1 q3
    have hcs := own_cell hg (k := zs.length) (by simpa using htk)
    have hcur : cur = cur.toList.toArray := by simp
    have hcl : cur.toList.length = c := by simpa using hsz
    have hgl : w.heap[g]? = some (.cells cur.toList.toArray (ρ.t 3) (0, 0)) := by rw [← hcur]; exact hg
    have hlt := (Array.getElem?_eq_some_iff.1 hg).1
    have hlt1 := (Array.getElem?_eq_some_iff.1 hg1).1
    have hap : vb ≠ g := fun h => (List.pairwise_cons.1 hS.dis).1 _ (.head _) g rfl (by rw [h]; rfl)
    have htk' : cur.toList.take zs.length = nums zs := by simpa using htk
    have htki : cur.toList.take i = (nums zs).take i := by rw [← htk', List.take_take, Nat.min_eq_left hi]
    have hother : ∀ b, Atom.blk (.row (.slice (some ⟨g, 0, none⟩) zs.length c) (ρ.t 3) 1 (nums zs)) ≠ some b → b ≠ g := fun b h e => h (by rw [e]; rfl)
    by_cases hroom : zs.length + 1 ≤ c
    · by_cases hin : i < zs.length
      · refine (Any2.slices_Insert_int_shift Ly g 0 zs.length c i vb 0 1 vc (nums zs) [.int .i64 x] w hin (by omega) hroom (Nat.le_trans hcm (by decide)) hap (nums_length _) rfl hcs (fun j hj => own_some hg (by omega)) (fun j _ => own_thaw hg _) hvs h1c h1v
          e2 (ρ.t 3) cur1.size cur.size (by simp [World.shape?, hg1]) (by simp [World.shape?, hg]) (by omega) (own_thaw hg1 _) (own_thaw hg1 _)).mono fun e w' ⟨he, hw⟩ => ?_
        subst he hw
        have hdl : ((nums zs).drop i).length = zs.length - i := by rw [List.length_drop, nums_length]
        have ⟨a1, a2, a3, a4, a5⟩ := setCells_heap (b := g) ((nums zs).drop i) (0 + (i + 1)) w.drew _ hgl (by omega)
        have ⟨b1, b2, b3, b4, b5⟩ := setCells_heap (b := g) [.int .i64 x] (0 + i) _ _ a4 (by simp; omega)
        refine ⟨_, _, rfl, row_fin (rest := cur.toList.drop (0 + (i + 1) + ((nums zs).drop i).length)) hS (b1.trans a1) (b2.trans a2) (b3.trans a3) (.inl rfl) ?_ (insAt_length hi) hroom hcm ?_ fun b hb hne => (b5 b (hother b hne)).trans (a5 b (hother b hne))⟩
        · rw [b4]
          congr 3
          simp only [Nat.zero_add, List.length_cons, List.length_nil]
          rw [List.take_append_of_le_length (by rw [List.length_take]; omega), List.take_take, Nat.min_eq_left (by omega), htki, List.drop_append_of_le_length (by rw [List.length_take]; omega), List.drop_eq_nil_of_le (by rw [List.length_take]; omega), nums_insAt]
          simp
        · rw [List.length_drop, hdl]; omega
      · obtain rfl : i = zs.length := by omega
        refine (Any2.slices_Insert_int_end_room Ly g 0 zs.length c vb 0 1 vc [.int .i64 x] w (by omega) hroom (Nat.le_trans hcm (by decide)) rfl (fun j hj => own_some hg (by omega)) (fun j _ => own_thaw hg _) hvs h1v).mono fun e w' ⟨he, hw⟩ => ?_
        subst he hw
        have ⟨a1, a2, a3, a4, a5⟩ := setCells_heap (b := g) [.int .i64 x] (0 + zs.length) w _ hgl (by simp; omega)
        refine ⟨_, _, rfl, row_fin (rest := cur.toList.drop (0 + zs.length + 1)) hS a1 a2 a3 (.inl rfl) ?_ (insAt_length hi) hroom hcm ?_ fun b hb hne => a5 b (hother b hne)⟩
        · rw [a4]
          congr 3
          rw [Nat.zero_add, htki, nums_insAt]
          simp [nums_length]
        · rw [List.length_drop]; omega
    · by_cases hin : i < zs.length
      · refine (Any2.slices_Insert_int_grow Ly g 0 zs.length c i vb 0 1 vc (nums zs) [.int .i64 x] w hin (by omega) hnc (by omega) (by omega) (nums_length _) rfl hcs hvs h1c h1v).mono fun e w' ⟨he, hw⟩ => ?_
        subst he hw
        have hge := grownCap_ge w (zs.length + 1) c (ρ.t 3)
        have hle := grownCap_le_maxLen w (zs.length + 1) c (ρ.t 3) (by omega)
        generalize grownCap w (zs.length + 1) c (ρ.t 3) = gc at *
        have z1 := size_zeroCells (Value.int .i64 0).cells (zs.length + 1 - i)
        have z2 := size_zeroCells (Value.int .i64 0).cells (gc - (zs.length + 1))
        have hone : (Value.int .i64 0).cells.size = 1 := rfl
        rw [hone, Nat.mul_one] at z1 z2
        generalize Builtin.zeroCells (Value.int .i64 0).cells (zs.length + 1 - i) = Z1 at *
        generalize Builtin.zeroCells (Value.int .i64 0).cells (gc - (zs.length + 1)) = Z2 at *
        have hdl : ((nums zs).drop i).length = zs.length - i := by rw [List.length_drop, nums_length]
        have htl : ((nums zs).take i).length = i := by rw [List.length_take, nums_length]; omega
        have h0 : (w.alloc (.cells (((nums zs).take i).toArray ++ Z1 ++ Z2) (ρ.t 3))).drew.heap[w.heap.size]? = some (.cells ((nums zs).take i ++ (Z1.toList ++ Z2.toList)).toArray (ρ.t 3) (0, 0)) := by
          rw [show (w.alloc _).drew.heap = w.heap.push _ from rfl, Array.getElem?_push, if_pos rfl]
          congr 2
          apply Array.toList_inj.1
          simp
        have ⟨a1, a2, a3, a4, a5⟩ := setCells_heap (b := w.heap.size) [.int .i64 x] i _ _ h0 (by simp only [List.length_append, List.length_cons, List.length_nil, Array.length_toList, htl, z1]; omega)
        have e0 : ((nums zs).take i ++ (Z1.toList ++ Z2.toList)).take i ++ ([Value.int .i64 x] ++ ((nums zs).take i ++ (Z1.toList ++ Z2.toList)).drop (i + [Value.int .i64 x].length)) = ((nums zs).take i ++ [.int .i64 x]) ++ (Z1.toList ++ Z2.toList).drop 1 := by
          rw [List.take_left' htl, List.drop_append, htl, List.drop_eq_nil_of_le (by rw [htl]; simp), List.append_assoc]
          congr 2
          simp only [List.nil_append, List.length_cons, List.length_nil]
          rw [show i + (0 + 1) - i = 1 by omega]
        rw [e0] at a4
        have htx : ((nums zs).take i ++ [Value.int .i64 x]).length = i + 1 := by rw [List.length_append, htl]; rfl
        have hz : (Z1.toList ++ Z2.toList).length = zs.length + 1 - i + (gc - (zs.length + 1)) := by simp only [List.length_append, Array.length_toList, z1, z2]
        have hz1 : Z1.toList.length = zs.length + 1 - i := z1
        have h9 : ((Z1.toList ++ Z2.toList).drop 1).length = zs.length + 1 - i + (gc - (zs.length + 1)) - 1 := by rw [List.length_drop, hz]
        have a4' : (((w.alloc (.cells (((nums zs).take i).toArray ++ Z1 ++ Z2) (ρ.t 3))).drew.setCells w.heap.size i [.int .i64 x]).drew).heap[w.heap.size]? = _ := a4
        have ⟨b1, b2, b3, b4, b5⟩ := setCells_heap (b := w.heap.size) ((nums zs).drop i) (i + 1) _ _ a4' (by rw [List.length_append, htx, h9, hdl]; omega)
        refine ⟨_, _, rfl, row_fin (rest := Z2.toList) hS (b1.trans a1) (b2.trans a2) (b3.trans a3) (.inr (Nat.le_refl _)) ?_ (insAt_length hi) hge hle ?_ fun b hb hne => ?_⟩
        · rw [b4]
          congr 3
          have e5 : ((nums zs).take i ++ [Value.int .i64 x]).drop (i + 1 + ((nums zs).drop i).length) = [] := List.drop_eq_nil_of_le (by rw [htx]; omega)
          rw [List.take_left' htx, List.drop_append, htx, e5, List.nil_append, List.drop_drop, nums_insAt]
          rw [show 1 + (i + 1 + ((nums zs).drop i).length - (i + 1)) = Z1.toList.length by rw [hdl, hz1]; omega, List.drop_left]
          simp
        · simp only [Array.length_toList, z2]; omega
        · have hb' : b ≠ w.heap.size := by omega
          refine (b5 b hb').trans ((a5 b hb').trans ?_)
          rw [show (w.alloc _).drew.heap = w.heap.push _ from rfl, Array.getElem?_push, if_neg hb']
      · obtain rfl : i = zs.length := by omega
        refine (Any2.slices_Insert_int_end_grow Ly (some ⟨g, 0, none⟩) zs.length c vb 0 1 vc (nums zs) [.int .i64 x] w (by omega) hnc (by omega) (by omega) (nums_length _) rfl (fun h => by cases h) (fun a ha j v hj => by
          cases ha
          have := hcs j v hj
          rw [Nat.zero_add] at this
          unfold Addr.add
          by_cases h0 : j = 0
          · rw [if_pos h0]; rw [h0] at this; exact this
          · rw [if_neg h0, Nat.zero_add]; exact this) hvs h1v).mono fun e w' ⟨he, hw⟩ => ?_
        subst he hw
        have hge := grownCap_ge w (zs.length + 1) c (ρ.t 3)
        have hle := grownCap_le_maxLen w (zs.length + 1) c (ρ.t 3) (by omega)
        refine ⟨_, _, rfl, row_fin (rest := (Builtin.zeroCells (Value.int .i64 0).cells (grownCap w (zs.length + 1) c (ρ.t 3) - (zs.length + 1))).toList) hS rfl rfl rfl (.inr (Nat.le_refl _)) ?_ (insAt_length hi) hge hle ?_ fun b hb _ => ?_⟩
        · rw [show (w.drew.alloc _).heap = w.heap.push _ from rfl, Array.getElem?_push, if_pos rfl]
          congr 2
          apply Array.toList_inj.1
          rw [nums_insAt, List.take_of_length_le (by rw [nums_length]; exact Nat.le_refl _), List.drop_eq_nil_of_le (by rw [nums_length]; exact Nat.le_refl _)]
          simp
        · have := size_zeroCells (Value.int .i64 0).cells (grownCap w (zs.length + 1) c (ρ.t 3) - (zs.length + 1))
          simp only [Array.length_toList]
          rw [this]
          have : (Value.int .i64 0).cells.size = 1 := rfl
          rw [this]; omega
        · rw [show (w.drew.alloc _).heap = w.heap.push _ from rfl, Array.getElem?_push, if_neg (by omega)]
def RSv (_ : Mem) (cs : List Value) (x : List Int) : Prop := ∃ a c, cs = [.slice a x.length c]
theorem RSv.mono : Mono RSv := fun _ _ _ _ h _ => h
theorem RSv.one : AllOne RSv := fun _ _ _ ⟨_, _, h⟩ => by rw [h]; rfl
def rowsV (e : TypeId) : List Value → List (List Int) → List Atom
  | v :: vs, x :: xs => .row v e 1 (nums x) :: rowsV e vs xs
  | _, _ => []
section
variable {e : TypeId} {w : World} {m : Mem} {L A : List Atom}
theorem rowsV_snoc {v : Value} {x : List Int} : ∀ {vs : List Value} {xs : List (List Int)}, vs.length = xs.length → (rowsV e (vs ++ [v]) (xs ++ [x])).Perm (.row v e 1 (nums x) :: rowsV e vs xs)
  | [], [], _ => .refl _
  | v1 :: vs, x1 :: xs, hl => by
    have := rowsV_snoc (v := v) (x := x) (vs := vs) (xs := xs) (by simpa using hl)
    exact (this.cons _).trans (.swap _ _ _)
  | [], _ :: _, hl => by simp at hl
  | _ :: _, [], hl => by simp at hl
theorem rowsV_at {v : Value} {x : List Int} : ∀ {vs : List Value} {xs : List (List Int)} {k : Nat}, vs[k]? = some v → xs[k]? = some x → ∃ R, (rowsV e vs xs).Perm (.row v e 1 (nums x) :: R) ∧
    ∀ (v' : Value) (x' : List Int), (rowsV e (vs.set k v') (xs.set k x')).Perm (.row v' e 1 (nums x') :: R)
  | v1 :: vs, x1 :: xs, 0, e1, e2 => by
    simp at e1 e2
    subst e1 e2
    exact ⟨rowsV e vs xs, .refl _, fun _ _ => .refl _⟩
  | v1 :: vs, x1 :: xs, k + 1, e1, e2 => by
    have ⟨R, r1, r2⟩ := rowsV_at (v := v) (x := x) (vs := vs) (xs := xs) (k := k) (by simpa using e1) (by simpa using e2)
    exact ⟨.row v1 e 1 (nums x1) :: R, (r1.cons _).trans (.swap _ _ _), fun v' x' => ((r2 v' x').cons _).trans (.swap _ _ _)⟩
  | [], _, _, e1, _ => by simp at e1
  | _ :: _, [], _, _, e2 => by simp at e2
theorem tab_nil (h : St w m (A ++ L)) : St w m (A ++ (rowsV e [] [] ++ L)) := h
theorem tab_snoc {vs : List Value} {xs : List (List Int)} (hr : RCs 1 RSv m vs xs) (h : St w m (A ++ (rowsV e vs xs ++ L))) : St w m (A ++ (rowsV e (vs ++ [.slice none 0 0]) (xs ++ [[]]) ++ L)) := by
  have h1 := h.nilRow e 1
  refine h1.perm ?_
  have hp := (rowsV_snoc (e := e) (v := .slice none 0 0) (x := []) (vs := vs) (xs := xs) (by have := hr.1; omega)).symm
  have h2 : (Atom.row (.slice none 0 0) e 1 [] :: (A ++ (rowsV e vs xs ++ L))).Perm (A ++ ((Atom.row (.slice none 0 0) e 1 [] :: rowsV e vs xs) ++ L)) := List.perm_middle.symm
  exact h2.trans ((hp.append_right L).append_left A)
theorem tab_take {vs : List Value} {xs : List (List Int)} {k : Nat} {v : Value} {x : List Int} (h : St w m (A ++ (rowsV e vs xs ++ L))) (e1 : vs[k]? = some v) (e2 : xs[k]? = some x) :
    ∃ R, St w m (.row v e 1 (nums x) :: (A ++ (R ++ L))) ∧ ∀ (B : List Atom) (w' : World) (v' : Value) (x' : List Int), St w' m (.row v' e 1 (nums x') :: (B ++ (R ++ L))) → St w' m (B ++ (rowsV e (vs.set k v') (xs.set k x') ++ L)) := by
  have ⟨R, r1, r2⟩ := rowsV_at (e := e) e1 e2
  refine ⟨R, h.perm (((r1.append_right L).append_left A).trans List.perm_middle), fun B w' v' x' h' => h'.perm ?_⟩
  exact List.perm_middle.symm.trans (((r2 v' x').symm.append_right L).append_left B)
theorem tab_lt {cs : List Value} {xs : List (List Int)} {k : Nat} {x : List Int} (hr : RCs 1 RSv m cs xs) (hx : xs[k]? = some x) : k < cs.length := by
  have h1 := (List.getElem?_eq_some_iff.1 hx).1
  have h2 := hr.1
  omega
theorem take_get {cs : List Value} {k : Nat} {v : Value} (h : (cs.drop (k * 1)).take 1 = [v]) : cs[k]? = some v := by
  have h1 := congrArg (fun l => l[0]?) h
  simpa using h1
theorem insert_rowI {P : Program} {ρ : Ren} (Ly : Lays2.n21 P ρ) {a : Option Addr} {n c vb vc : Nat} {p : Int} {e2 : TypeId} {zs : List Int} {x : Int}
    (hS : St w m (.row (.slice a n c) (ρ.t 3) 1 (nums zs) :: .row (.slice (some ⟨vb, 0, none⟩) 1 vc) e2 1 [.int .i64 x] :: L)) (hp : upto p zs.length = true) (hl : lim (zs.length + 1) = true) :
    Calls P (ρ.f 21) [.slice a n c, .int .i64 p, .slice (some ⟨vb, 0, none⟩) 1 vc].toArray w (Ret fun v w' => ∃ a' c', v = .slice a' (insAt zs p.toNat x).length c' ∧
      St w' m (.row (.slice a' (insAt zs p.toNat x).length c') (ρ.t 3) 1 (nums (insAt zs p.toNat x)) :: .row (.slice (some ⟨vb, 0, none⟩) 1 vc) e2 1 [.int .i64 x] :: L)) := by
  have h0 := upto_0 hp
  have h1 := upto_n hp
  rw [insAt_length h1]
  have q := insert_row Ly hS h1 (lim_le hl)
  rw [Int.toNat_of_nonneg h0] at q
  exact q
theorem spl_one {cs : List Value} {k : Nat} {v : Value} (hk : k < cs.length) : spl cs (0 + k * 1) [v] = cs.set k v := by
  simp only [spl, Nat.zero_add, Nat.mul_one, List.length_cons, List.length_nil]
  rw [List.set_eq_take_append_cons_drop, if_pos hk]
  simp
theorem rowsV_freeze : ∀ {vs : List Value} {xs : List (List Int)} {m : Mem}, RCs 1 RSv m vs xs → St w m (rowsV e vs xs ++ L) → ∃ m', m ≤ m' ∧ St w m' L ∧ RCs 1 (RS 1 RInt) m' vs xs
  | [], [], m, _, hS => ⟨m, Mem.le_refl _, hS, RCs.nil⟩
  | v :: vs, x :: xs, m, hr, hS => by
    obtain ⟨a, c, hv⟩ := hr.2 0 x rfl
    simp at hv
    subst hv
    obtain ⟨m1, k1, hS1, r1⟩ := St.freezeR (R := RInt) hS .here (RCs_nums x) RInt.mono (by decide)
    have hr1 : RCs 1 RSv m1 vs xs := by
      refine ⟨by have := hr.1; simp at this ⊢; omega, fun i y hy => ?_⟩
      have h5 := hr.2 (i + 1) y (by simpa using hy)
      have h6 : RSv m (((vs.drop (i * 1)).take 1)) y := by simpa using h5
      exact h6
    have ⟨m2, k2, hS2, r2⟩ := rowsV_freeze hr1 hS1
    exact ⟨m2, Mem.le_trans k1 k2, hS2, RCs.cons (d := [.slice a x.length c]) rfl ⟨_, _, _, rfl, RSl.mono RInt.mono r1 k2⟩ r2⟩
  | [], _ :: _, _, hr, _ => by have := hr.1; simp at this
  | _ :: _, [], _, hr, _ => by have := hr.1; simp at this
theorem tab_half {vs : List Value} {xs : List (List Int)} (hr : RCs 1 RSv m vs xs) (h : St w m (A ++ (rowsV e vs xs ++ L))) : ∃ m', m ≤ m' ∧ St w m' (A ++ L) ∧ RCs 1 (RS 1 RInt) m' vs xs := by
  have h' : St w m (rowsV e vs xs ++ (A ++ L)) := h.perm (by
    rw [← List.append_assoc, ← List.append_assoc]
    exact List.perm_append_comm.append_right L)
  exact rowsV_freeze hr h'
end
end Go.K
