/- Walking loaded Go code: regions whose order is open; slices that are cut; rows that are read; no program is named here. -/
import Derived.Test.YtdhhimfcjoclfaaKE
set_option linter.unusedVariables false
set_option linter.unusedSimpArgs false
namespace Go.K
open Go
def wlH (P : Program) (r : Option Nat) (n : NF) (ops : Array Oper) (K : Fr → World → Prop) (S : World → Prop) (fuel : Nat) (listed : Array Bool) (f : Fr) (w : World) : Prop :=
  wpAnyG r 0 P .any ops (onlyN n K) S fuel listed (act n f) w
def canTake (ops : Array Oper) (listed : Array Bool) (i : Nat) : Bool :=
  noDefer ops && (Region.noSelect ops && (Region.free .any ops listed i && (Region.ready .any ops listed).contains i))
section
variable {P : Program} {r : Option Nat} {n : NF} {ops : Array Oper} {K : Fr → World → Prop} {S : World → Prop} {fuel : Nat} {listed listed' : Array Bool} {f : Fr} {w : World} {m : Mem} {L : List Atom}
  {d : Option Nat} {op : Op} {ty : TypeId} {pos : String} {af : Array Edge} {Q : FPost} {cs : List Code}
theorem c_draw {id k : Nat} {l : List Oper} (S : World → Prop) (hm : P.follows .mixedOrders = true) (hk : l.length = k) (h : wlH P r n l.toArray (fun f w => wpc P r n Q cs f w) S k (Array.replicate k false) f { w with drawn := w.drawn + 1 }) :
    wpc P r n Q (.region id l.toArray true :: cs) f w := by
  subst hk
  unfold wlH at h
  simp only [wpc, wpl] at *
  refine wpIn_mono (wp_region_G (S := S) hm (by simpa only [List.size_toArray] using h)) fun e a w hh => ?_
  cases e with
  | normal => obtain ⟨g, rfl, hg⟩ := hh; exact ⟨n, g, rfl, hg⟩
  | _ => exact hh.elim
theorem onlyN_panic {c : List PanicEntry} {a a' : Act} {w : World} (h : onlyN n K (.panic c) a w) : onlyN n K (.panic c) a' w := h.elim
theorem d_take {i : Nat} {g : Option (Nat × Bool)} {v : Value} (hi : ops[i]? = some ⟨d, op, ty, pos, af, g⟩) (hc : canTake ops listed i = true) (hl : listed.setIfInBounds i true = listed') (hy : YieldsIf P ops S ⟨d, op, ty, pos, af, g⟩ v (act n f)) (hS : S w)
    (k : wlH P r n ops K S fuel listed' (updo f d v) w) : wlH P r n ops K S (fuel + 1) listed f w := by
  subst hl
  simp only [canTake, Bool.and_eq_true] at hc
  refine wpAnyG_take hc.1 hi hc.2.1 hc.2.2.1 hc.2.2.2 (fun _ _ _ h => onlyN_panic h) hy hS ?_
  rw [put_act]
  exact k
def opAt : List Oper → Nat → Option Oper
  | [], _ => none
  | o :: _, 0 => some o
  | _ :: r, j + 1 => opAt r j
theorem opAt_eq {l : List Oper} {j : Nat} : opAt l j = l[j]? := by
  induction l generalizing j with
  | nil => simp [opAt]
  | cons o r ih => cases j <;> simp [opAt, ih]
theorem op_at {j : Nat} {o : Oper} (h : opAt ops.toList j = some o) : ops[j]? = some o := by
  rw [opAt_eq] at h
  simpa using h
theorem d_v {i : Nat} {v : Value} (hi : opAt ops.toList i = some ⟨d, op, ty, pos, af, none⟩) (hc : canTake ops listed i = true) (hl : listed.setIfInBounds i true = listed') (hv : RunV P S ⟨d, op, ty, pos, af, none⟩ (ev n f) v) (hS : S w)
    (k : wlH P r n ops K S fuel listed' (updo f d v) w) : wlH P r n ops K S (fuel + 1) listed f w :=
  d_take (op_at hi) hc hl (.inl ⟨rfl, fun w hw => by rw [eval_act]; exact hv w hw⟩) hS k
theorem d_on {i j t : Nat} {b : Bool} {v : Value} (hi : opAt ops.toList i = some ⟨d, op, ty, pos, af, some (j, b)⟩) (hc : canTake ops listed i = true) (hl : listed.setIfInBounds i true = listed') (hj : dstOf ops.toList j = some t) (hb : ev n f (.tmp t) = .bool b)
    (hv : RunV P S ⟨d, op, ty, pos, af, some (j, b)⟩ (ev n f) v) (hS : S w) (k : wlH P r n ops K S fuel listed' (updo f d v) w) : wlH P r n ops K S (fuel + 1) listed f w :=
  d_take (op_at hi) hc hl (.inl ⟨by simp [Region.wanted, yielded_act (dst_at hj) hb], fun w hw => by rw [eval_act]; exact hv w hw⟩) hS k
theorem d_off {i j t : Nat} {b b' : Bool} (hi : opAt ops.toList i = some ⟨d, op, ty, pos, af, some (j, b')⟩) (hc : canTake ops listed i = true) (hl : listed.setIfInBounds i true = listed') (hj : dstOf ops.toList j = some t) (hb : ev n f (.tmp t) = .bool b)
    (hne : (b == b') = false) (hS : S w) (k : wlH P r n ops K S fuel listed' (updo f d undef) w) : wlH P r n ops K S (fuel + 1) listed f w :=
  d_take (op_at hi) hc hl (.inr ⟨by simp only [Region.wanted, yielded_act (dst_at hj) hb]; cases b <;> cases b' <;> simp_all, rfl⟩) hS k
theorem d_end (hr : Region.ready .any ops listed = []) (h : K f w) : wlH P r n ops K S fuel listed f w := wpAnyG_done hr ⟨f, rfl, h⟩ fuel
theorem d_all {rs : List Nat} (hr : Region.ready .any ops listed = rs) (hne : rs ≠ []) (h : ∀ i ∈ rs, ∀ o, ops[i]? = some o → wl P r n ops (fun f' w' => S w' ∧ wlH P r n ops K S fuel (listed.setIfInBounds i true) f' w') [o] f w) :
    wlH P r n ops K S (fuel + 1) listed f w := by
  refine wpAnyG_all hr hne fun i hi => ?_
  unfold wpOpIn
  cases ho : ops[i]? with
  | none =>
    exfalso
    rw [← hr] at hi
    obtain ⟨_, o, ho', _⟩ := mem_ready.1 hi
    rw [ho] at ho'; cases ho'
  | some o =>
    have h1 := h i hi o ho
    simp only [wl, wpListIn] at h1
    have hl : ∀ K', ¬ LetsOut (onlyN n K') := fun K' ⟨_, _, h⟩ => h
    have hn : ∀ a w, onlyN n (fun f' w' => S w' ∧ wlH P r n ops K S fuel (listed.setIfInBounds i true) f' w') .normal a w → S w ∧ wpAnyG r 0 P .any ops (onlyN n K) S fuel (listed.setIfInBounds i true) a w := by
      rintro a w ⟨g, rfl, h⟩; exact h
    simp only
    split
    · rename_i hw
      rw [if_pos hw] at h1
      unfold Oper.wpIn at *
      refine ⟨h1.1, ?_⟩
      have h1 := h1.2
      generalize (o.semAt (FF r).round (act n f).eval).run P w = x at *
      cases x with
      | ok x w' =>
        cases x with
        | value v => exact hn _ _ h1
        | skip => exact hn _ _ h1
        | defer v => exact hn _ _ h1
        | enter k args =>
          simp only [Oper.uponIn] at h1 ⊢
          refine ⟨h1.1, CallsIn.mono h1.2 fun e w'' he => ?_⟩
          cases e with
          | returned v => exact hn _ _ he
          | panicked c => exact he.elim
          | outgrown => exact absurd he (hl _)
        | row q args =>
          simp only [Oper.uponIn] at h1 ⊢
          exact ⟨h1.1, RowsIn.mono h1.2 fun v w'' he => hn _ _ he⟩
        | round l g tmps assign body =>
          simp only [Oper.uponIn] at h1 ⊢
          refine ⟨h1.1, RoundIn.mono h1.2 fun e w'' he => ?_⟩
          cases e with
          | returned v => exact hn _ _ he
          | panicked c => exact he.elim
          | outgrown => exact absurd he (hl _)
        | _ => exact h1
      | halt x w' => cases x <;> first | exact h1 | exact h1.elim
    · rename_i hw
      rw [if_neg hw] at h1
      exact ⟨h1.1, hn _ _ h1.2⟩
end
attribute [irreducible] wlH
section
variable {P : Program} {S : World → Prop} {ρ : Operand → Value} {d : Option Nat} {ty : TypeId} {pos : String} {af : Array Edge} {g : Option (Nat × Bool)}
theorem r_slice_hi {t e : TypeId} {agg : Bool} {s bytes : Nat} {z : List Value} (hu : P.underlying t = some (.slice e)) (ht : TyI P e agg s bytes z) {x y : Operand} {a : Option Addr} {n c : Nat} {h : Int} (hx : ρ x = .slice a n c) (hy : ρ y = .int .i64 h) (h0 : 0 ≤ h) (hc : h ≤ c) :
    RunV P S ⟨d, .slice t x none (some y) none, ty, pos, af, g⟩ ρ (.slice a h.toNat c) := fun w _ => by
  have h1 : (Instr.sliceAt t (.slice a n c) none (some (.int .i64 h)) none).run P w = .ok (.slice a h.toNat c) w := by
    simp only [Instr.sliceAt, Sem.run_bind, run_underlying hu, Result.andThen_ok, Instr.slice, Instr.sliceBounds, Instr.sliceBound, asIntOf, pure_bind, if_true, Option.isSome_none, Bool.false_eq_true, if_false, Sem.run_pure, ht.run_sizeOf]
    rw [if_pos ⟨h0, hc⟩]
    simp only [Sem.run_pure, Result.andThen_ok, ht.run_sizeOf, Nat.zero_mul, Nat.sub_zero]
    congr 2
    split
    · rfl
    · cases a <;> simp [Addr.add]
  simp only [execOp, hx, Option.map_none, Option.map_some, hy, Sem.run_bind, h1, Result.andThen_ok, Sem.run_pure]
theorem r_slice_lo {t e : TypeId} {agg : Bool} {s bytes : Nat} {z : List Value} (hu : P.underlying t = some (.slice e)) (ht : TyI P e agg s bytes z) {x y : Operand} {a : Option Addr} {n c : Nat} {l : Int} (hx : ρ x = .slice a n c) (hy : ρ y = .int .i64 l) (h0 : 0 ≤ l) (h1 : l ≤ n) :
    RunV P S ⟨d, .slice t x (some y) none none, ty, pos, af, g⟩ ρ (.slice (if c = l.toNat then a else a.map (·.add (l.toNat * s))) (n - l.toNat) (c - l.toNat)) := fun w _ => by
  have h2 : (Instr.sliceAt t (.slice a n c) (some (.int .i64 l)) none none).run P w = .ok (.slice (if c = l.toNat then a else a.map (·.add (l.toNat * s))) (n - l.toNat) (c - l.toNat)) w := by
    simp only [Instr.sliceAt, Sem.run_bind, run_underlying hu, Result.andThen_ok, Instr.slice, Instr.sliceBounds, Instr.sliceBound, asIntOf, pure_bind, if_true, Option.isSome_none, Bool.false_eq_true, if_false, Sem.run_pure, ht.run_sizeOf]
    rw [if_pos ⟨h0, by omega⟩]
    simp only [Sem.run_pure, Result.andThen_ok, ht.run_sizeOf]
  simp only [execOp, hx, Option.map_none, Option.map_some, hy, Sem.run_bind, h2, Result.andThen_ok, Sem.run_pure]
end
theorem RSl.cut {α : Type} {s : Nat} {R : Mem → List Value → α → Prop} {m : Mem} {a : Option Addr} {n c : Nat} {xs : List α} (hr : RSl s R m a n c xs) (l h : Nat) (hlh : l ≤ h) (hn : h ≤ n) :
    RSl s R m (if c = l then a else a.map (·.add (l * s))) (h - l) (c - l) ((xs.take h).drop l) := by
  obtain ⟨h1, h2, hnc, h3⟩ := hr
  refine ⟨by simp; omega, by omega, by omega, fun hp => ?_⟩
  obtain ⟨b, o, rfl, hh⟩ := h3 (by omega)
  rw [if_neg (by omega)]
  refine ⟨b, o + l * s, by simp [add_none], fun i x hx => ?_⟩
  have hx' : xs[l + i]? = some x := by
    rw [List.getElem?_drop, List.getElem?_take] at hx
    split at hx
    · exact hx
    · cases hx
  obtain ⟨cs, h4, h5, h6⟩ := hh (l + i) x hx'
  exact ⟨cs, h4, by rw [Nat.add_assoc, ← Nat.add_mul]; exact h5, h6⟩
theorem RSl.nil {α : Type} {s : Nat} {R : Mem → List Value → α → Prop} {m : Mem} {a : Option Addr} {c : Nat} : RSl s R m a 0 c ([] : List α) := ⟨rfl, by omega, by omega, fun h => by omega⟩
theorem row_base {w : World} {e : TypeId} {s : Nat} {a : Option Addr} {n c : Nat} {cs : List Value} (h : RowOk w (.slice a n c) e s cs) (h0 : 0 < n) : ∃ b, a = some ⟨b, 0, none⟩ := by
  rcases (row_nn h).2 with ⟨_, h2⟩ | ⟨g, cap, cur, h1, _⟩
  · omega
  · injection h1 with h1 _ _; exact ⟨g, h1⟩
theorem row_cap {w : World} {e : TypeId} {s : Nat} {a : Option Addr} {n c : Nat} {cs : List Value} (h : RowOk w (.slice a n c) e s cs) : n ≤ c ∧ c ≤ maxLen := by
  rcases (row_nn h).2 with ⟨h1, h2⟩ | ⟨g, cap, cur, h1, _, _, h2, h3, _⟩
  · injection h1 with _ _ h3; subst h2 h3; simp [maxLen]
  · injection h1 with _ _ h4; subst h4; exact ⟨h2, h3⟩
theorem row_at {w : World} {e : TypeId} {s : Nat} {b n c : Nat} {cs : List Value} (h : RowOk w (.slice (some ⟨b, 0, none⟩) n c) e s cs) : CellsAt w ⟨b, 0, none⟩ cs := by
  intro i v hv
  exact (row_nn h).cells (g := b) rfl i v hv
theorem row_src {w : World} {e : TypeId} {s : Nat} {a : Option Addr} {n c : Nat} {cs : List Value} (h : RowOk w (.slice a n c) e s cs) (h1 : allOne cs = true) : Src w s a n cs := by
  refine ⟨row_len h, h1, ?_⟩
  rcases Nat.eq_zero_or_pos n with h0 | h0
  · exact .inl h0
  · obtain ⟨b, rfl⟩ := row_base h h0
    exact .inr ⟨_, rfl, row_at h⟩
theorem St.trunc {w : World} {m : Mem} {L L' : List Atom} {e : TypeId} {s : Nat} {a : Option Addr} {n c k : Nat} {cs : List Value} (h : St w m L) (hk : k ≤ n)
    (hs : Swap L (.row (.slice a n c) e s cs) (.row (.slice a k c) e s (cs.take (k * s))) L') : St w m L' := by
  refine h.swap hs rfl rfl rfl (fun b hb => .inl (by cases a <;> exact hb)) ⟨k, ?_⟩ fun _ _ _ => rfl
  have hr := row_nn (h.ok _ hs.mem)
  have hle : k * s ≤ n * s := Nat.mul_le_mul_right _ hk
  refine ⟨by rw [List.length_take, hr.1]; omega, ?_⟩
  rcases hr.2 with ⟨h1, h2⟩ | ⟨g, cap, cur, h1, h2, h3, h4, h5, h6, h7⟩
  · injection h1 with e1 e2 e3; subst e1 e3; exact .inl ⟨by rw [show k = 0 by omega], by omega⟩
  · injection h1 with e1 e2 e3; subst e1 e3
    refine .inr ⟨g, c, cur, rfl, h2, h3, by omega, h5, h6, ?_⟩
    rw [← h7, List.take_take, Nat.min_eq_left hle]
theorem St.freeze_row {w : World} {m : Mem} {L L' : List Atom} {e : TypeId} {s : Nat} {a : Option Addr} {n c : Nat} {cs : List Value} (h : St w m L) (hd : Drop L (.row (.slice a n c) e s cs) L') :
    ∃ m', m ≤ m' ∧ St w m' L' ∧ (0 < n → ∃ b, a = some ⟨b, 0, none⟩ ∧ Imm m' b 0 cs) ∧ n ≤ 9223372036854775807 ∧ cs.length = n * s := by
  have hok := h.ok _ hd.mem
  have hcap := row_cap hok
  have hl := row_len hok
  have hn : n ≤ 9223372036854775807 := by simp only [maxLen] at hcap; omega
  rcases (row_nn hok).2 with ⟨h1, h2⟩ | ⟨g, cap, cur, h1, h2, h3, h4, h5, h6, h7⟩
  · exact ⟨m, m.le_refl, h.weaken hd.sub, fun h0 => by omega, hn, hl⟩
  · injection h1 with e1 e2 e3; subst e1 e3
    obtain ⟨k1, k2, k3⟩ := h.freeze hd (b := g) rfl h3
    refine ⟨_, k2, k1, fun _ => ⟨g, rfl, cur, e, (0, 0), k3, fun i v hv => ?_⟩, hn, hl⟩
    rw [← h7, List.getElem?_take] at hv
    split at hv
    · simpa using hv
    · cases hv
end Go.K
