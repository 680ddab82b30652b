/- Slices that were frozen lately, and may be taken back; blocks for deferred calls of a loop's ranges over functions; no program is named here. -/
import Derived.Test.YtdhhimfcjoclfaaKP
set_option linter.unusedVariables false
set_option linter.unusedSimpArgs false
namespace Go.K
open Go
def Fresh {α : Type} (e : TypeId) (s : Nat) (R : Mem → List Value → α → Prop) (m0 m : Mem) (a : Option Addr) (n c : Nat) (xs : List α) : Prop :=
  RSl s R m a n c xs ∧ ((a = none ∧ n = 0 ∧ c = 0) ∨ ∃ (g : Nat) (cur : Array Value) (m1 : Mem) (cs : List Value), a = some ⟨g, 0, none⟩ ∧ m0 ≤ m1 ∧ m1 ≤ m ∧ m1.blk g = none ∧ m.blk g = some (.cells cur e (0, 0)) ∧
    n ≤ c ∧ c ≤ maxLen ∧ cur.size = c * s ∧ cur.toList.take (n * s) = cs ∧ RCs s R m1 cs xs)
section
variable {α : Type} {s : Nat} {R : Mem → List Value → α → Prop} {m0 m : Mem} {w : World} {e : TypeId} {a : Option Addr} {n c : Nat} {cs : List Value} {xs : List α} {L L' : List Atom}
theorem Fresh.rsl (h : Fresh e s R m0 m a n c xs) : RSl s R m a n c xs := h.1
theorem Fresh.nil : Fresh e s R m0 m none 0 0 ([] : List α) := ⟨RSl.nil, .inl ⟨rfl, rfl, rfl⟩⟩
theorem Fresh.mono (hR : Mono R) (h : Fresh e s R m0 m a n c xs) {m' : Mem} (hm : m ≤ m') : Fresh e s R m0 m' a n c xs := by
  refine ⟨RSl.mono hR h.1 hm, ?_⟩
  rcases h.2 with h | ⟨g, cur, m1, cs, h1, h2, h3, h4, h5, h6⟩
  · exact .inl h
  · exact .inr ⟨g, cur, m1, cs, h1, h2, Mem.le_trans h3 hm, h4, hm.blk _ _ h5, h6⟩
theorem St.freezeF (h : St w m L) (hd : Drop L (.row (.slice a n c) e s cs) L') (hr : RCs s R m cs xs) (hR : Mono R) (hs : 0 < s) (h0 : m0 ≤ m) :
    ∃ m', m ≤ m' ∧ St w m' L' ∧ Fresh e s R m0 m' a n c xs := by
  have hok : RowOk w (.slice a n c) e s cs := h.ok _ hd.mem
  have hn := row_n hok hr hs
  have hcap := row_cap hok
  have hnn := row_nn hok
  rcases hnn.2 with ⟨h1, h2⟩ | ⟨g, cap, cur, h1, hg0, hg, h5, h6, h7, h8⟩
  · injection h1 with e1 e2 e3
    subst e1 e2 e3
    have hx : xs = [] := List.eq_nil_of_length_eq_zero hn.symm
    subst hx
    exact ⟨m, Mem.le_refl m, h.weaken hd.sub, Fresh.nil⟩
  · injection h1 with e1 e2 e3
    subst e1 e3
    have hb : (Atom.row (.slice (some ⟨g, 0, none⟩) n c) e s cs).blk = some g := rfl
    obtain ⟨hS, hle, hblk⟩ := h.freeze hd hb hg
    refine ⟨_, hle, hS, RSl_of (hr.mono hR hle) hn.symm (by have := hcap.1; have := hcap.2; simp only [maxLen] at this; omega) hcap.1 (fun _ => ⟨g, rfl, cur, e, (0, 0), hblk, fun i v hv => ?_⟩),
      .inr ⟨g, cur, m, cs, rfl, h0, hle, h.sep _ hd.mem g hb, hblk, hcap.1, hcap.2, h7, h8, hr⟩⟩
    have hi := (List.getElem?_eq_some_iff.1 hv).1
    rw [← h8, List.getElem?_take] at hv
    split at hv
    · simpa using hv
    · cases hv
theorem St.reclaim (h : St w m L) (hf : Fresh e s R m0 m a n c xs) (h0 : m0 ≤ m) : ∃ m1, m0 ≤ m1 ∧ ∃ cs, RCs s R m1 cs xs ∧ St w m1 (.row (.slice a n c) e s cs :: L) := by
  rcases hf.2 with ⟨rfl, rfl, rfl⟩ | ⟨g, cur, m1, cs, rfl, h2, h3, h4, h5, h6, h7, h8, h9, h10⟩
  · have hx : xs = [] := List.eq_nil_of_length_eq_zero hf.1.1
    subst hx
    exact ⟨m, h0, [], RCs.nil, h.nilRow e s⟩
  · refine ⟨m1, h2, cs, h10, ?_⟩
    have hg := h.imm g _ h5
    have hlen : cs.length = n * s := by
      rw [← h9, List.length_take, Array.length_toList, h8]; exact Nat.min_eq_left (Nat.mul_le_mul_right _ h6)
    have hb := h.back h3
    refine { imm := hb.imm, ok := ?_, sep := ?_, dis := ?_, os := hb.os, tape := hb.tape, output := hb.output }
    · intro B hB
      cases hB with
      | head => exact ⟨n, hlen, .inr ⟨g, c, cur, rfl, Nat.zero_le _, hg, h6, h7, h8, h9⟩⟩
      | tail _ hB => exact h.ok B hB
    · intro B hB b hb'
      cases hB with
      | head => simp only [Atom.blk, Option.some.injEq] at hb'; subst hb'; exact h4
      | tail _ hB => exact hb.sep B hB b hb'
    · refine List.pairwise_cons.2 ⟨fun B hB b hb' hb2 => ?_, h.dis⟩
      simp only [Atom.blk, Option.some.injEq] at hb'; subst hb'
      have := h.sep B hB g hb2
      rw [h5] at this; cases this
end
def dfrs (ds : List Nat) : List Atom := ds.map fun D => .raw D (.deferred (some []))
section
variable {P : Program} {w : World} {m : Mem} {f : Fr} {A L : List Atom}
theorem St.mark {D : Nat} {ds : List Nat} (h : St w m (.raw D (.deferred (some [])) :: (A ++ (dfrs ds ++ L)))) : St w m (A ++ (dfrs (D :: ds) ++ L)) := by
  refine h.perm ?_
  simp only [dfrs, List.map_cons, List.cons_append]
  exact (List.perm_middle (l₁ := A)).symm
theorem ret_marks {fn : Func} {R : Value → World → Prop} {N : Nat} : ∀ {ds : List Nat} {w : World}, St w m (A ++ (dfrs ds ++ L)) → (∀ w', St w' m (A ++ L) → retQ P fn R .ret ⟨N, []⟩ f w') → retQ P fn R .ret ⟨N, ds⟩ f w
  | [], w, hS, h => h w (by simpa [dfrs] using hS)
  | D :: ds, w, hS, h => by
    have h1 : St w m (.raw D (.deferred (some [])) :: (A ++ (dfrs ds ++ L))) := hS.perm (by
      simp only [dfrs, List.map_cons, List.cons_append]; exact List.perm_middle)
    exact ret_mark h1 .here fun w' h' => ret_marks h' h
end
end Go.K
