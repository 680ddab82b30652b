/- Walking loaded Go code with frames as functions and owned atoms: sequences, branches, loops, calls, operations that make or write memory; no program is named here. -/
import Derived.Test.YtdhhimfcjoclfaaKW
import Derived.RangeFuncLeaves
import Derived.RangeFuncRecord
import Derived.RangeFuncNested
set_option linter.unusedVariables false
set_option linter.unusedSimpArgs false
namespace Go.K
open Go
abbrev FPost := Exit → NF → Fr → World → Prop
def liftQ (Q : FPost) : Exit → Act → World → Prop := fun e a w => ∃ n f, a = act n f ∧ Q e n f w
def onlyN (n : NF) (K : Fr → World → Prop) : Exit → Act → World → Prop
  | .normal, a, w => ∃ f, a = act n f ∧ K f w
  | _, _, _ => False
def wl (P : Program) (r : Option Nat) (n : NF) (ops : Array Oper) (K : Fr → World → Prop) (l : List Oper) (f : Fr) (w : World) : Prop :=
  wpListIn (FF r) 0 P ops (onlyN n K) l (act n f) w
section
variable {P : Program} {r : Option Nat} {n : NF} {ops : Array Oper} {K : Fr → World → Prop} {rest : List Oper} {f : Fr} {w : World} {o : Oper}
  {d : Option Nat} {op : Op} {ty : TypeId} {pos : String} {af : Array Edge}
theorem wl_nil (h : K f w) : wl P r n ops K [] f w := ⟨f, rfl, h⟩
theorem wl_run {v : Value} {w' : World} (h : (execOp (ev n f) ⟨d, op, ty, pos, af, none⟩).run P w = .ok (.value v) w') (k : wl P r n ops K rest (updo f d v) w') :
    wl P r n ops K (⟨d, op, ty, pos, af, none⟩ :: rest) f w := by
  have hd := nodefer h (by simp)
  unfold wl at *
  simp only [wpListIn, Region.wanted, if_true, Oper.wpIn, sem_eq hd, eval_act, h, Oper.uponIn, put_act]
  exact ⟨fun _ _ => trivial, k⟩
theorem wl_skip {w' : World} (h : (execOp (ev n f) ⟨d, op, ty, pos, af, none⟩).run P w = .ok .skip w') (k : wl P r n ops K rest (updo f d undef) w') :
    wl P r n ops K (⟨d, op, ty, pos, af, none⟩ :: rest) f w := by
  have hd := nodefer h (by simp)
  unfold wl at *
  simp only [wpListIn, Region.wanted, if_true, Oper.wpIn, sem_eq hd, eval_act, h, Oper.uponIn, put_act]
  exact ⟨fun _ _ => trivial, k⟩
theorem yielded_act {j t : Nat} {b : Bool} (hj : (ops[j]?).bind (·.dst) = some t) (hv : ev n f (.tmp t) = .bool b) : yielded ops (act n f).tmps j = some b := by
  have h := congrFun (eval_act n f) (.tmp t)
  rw [hv] at h
  simp only [Act.eval] at h
  unfold yielded
  rw [hj]
  simp only [Option.bind_some]
  cases ht : (act n f).tmps[t]? with
  | none => simp [Array.getD_eq_getD_getElem?, ht, undef] at h
  | some x => simp [Array.getD_eq_getD_getElem?, ht] at h; subst h; rfl
def dstOf : List Oper → Nat → Option Nat
  | [], _ => none
  | o :: _, 0 => o.dst
  | _ :: r, j + 1 => dstOf r j
theorem dstOf_eq {l : List Oper} {j : Nat} : dstOf l j = (l[j]?).bind (·.dst) := by
  induction l generalizing j with
  | nil => simp [dstOf]
  | cons o r ih => cases j <;> simp [dstOf, ih]
theorem dst_at {j t : Nat} (h : dstOf ops.toList j = some t) : (ops[j]?).bind (·.dst) = some t := by
  rw [dstOf_eq] at h
  simpa using h
theorem wl_on {j t : Nat} {b : Bool} (hj' : dstOf ops.toList j = some t) (hv : ev n f (.tmp t) = .bool b) (k : wl P r n ops K (⟨d, op, ty, pos, af, none⟩ :: rest) f w) :
    wl P r n ops K (⟨d, op, ty, pos, af, some (j, b)⟩ :: rest) f w := by
  have hj := dst_at hj'
  unfold wl at *
  simp only [wpListIn, Region.wanted, yielded_act hj hv, if_true, BEq.rfl] at *
  exact k
theorem wl_off {j t : Nat} {b b' : Bool} (hj' : dstOf ops.toList j = some t) (hv : ev n f (.tmp t) = .bool b) (hb : (b == b') = false) (k : wl P r n ops K rest (updo f d undef) w) :
    wl P r n ops K (⟨d, op, ty, pos, af, some (j, b')⟩ :: rest) f w := by
  have hj := dst_at hj'
  unfold wl at *
  have : Region.wanted ⟨d, op, ty, pos, af, some (j, b')⟩ (yielded ops (act n f).tmps) = false := by
    simp only [Region.wanted, yielded_act hj hv]; cases b <;> cases b' <;> simp_all
  simp only [wpListIn, this, Bool.false_eq_true, if_false, put_act]
  exact ⟨fun _ _ => trivial, k⟩
theorem fr_know {G : Fr → Prop} {t : Nat} {v : Value} (h : f t = v) (k : G (upd f t v)) : G f := by
  subst h; rwa [upd_same] at k
theorem wl_split {t : Nat} {c : Bool} (hv : f t = .bool c) (ht : c = true → wl P r n ops K rest (upd f t (.bool true)) w) (hf : c = false → wl P r n ops K rest (upd f t (.bool false)) w) :
    wl P r n ops K rest f w := by
  cases c with
  | true => exact fr_know (G := fun f => wl P r n ops K rest f w) hv (ht rfl)
  | false => exact fr_know (G := fun f => wl P r n ops K rest f w) hv (hf rfl)
def Ret (R : Value → World → Prop) : Ending → World → Prop
  | .returned v, w => R v w
  | _, _ => False
structure Ent (P : Program) (k : FuncId) : Prop where
  h : ∃ fn, P.funcs[k]? = some fn ∧ (fn.name == "runtime.NumGoroutine") = false ∧ fn.body.isNone = false
theorem run_callFunc {k : FuncId} {args : Array Value} (h : Ent P k) (w : World) : (callFunc k args).run P w = .ok (.enter k args) w := by
  obtain ⟨fn, h1, h2, h3⟩ := h.h
  simp only [callFunc, program, Sem.run_bind, Sem.run, Result.andThen_ok, h1, h2, h3, Bool.false_eq_true, if_false, Sem.run_pure]
theorem wl_enter {k : FuncId} {args : Array Value} {R : Value → World → Prop} (h : (execOp (ev n f) ⟨d, op, ty, pos, af, none⟩).run P w = .ok (.enter k args) w) (hc : Calls P k args w (Ret R))
    (kk : ∀ v w', R v w' → wl P r n ops K rest (updo f d v) w') : wl P r n ops K (⟨d, op, ty, pos, af, none⟩ :: rest) f w := by
  have hd := nodefer h (by simp)
  unfold wl at *
  simp only [wpListIn, Region.wanted, if_true, Oper.wpIn, sem_eq hd, eval_act, h, Oper.uponIn]
  refine ⟨fun _ _ => trivial, (fun hd => by cases hd), ?_⟩
  have hc' : CallsIn (FF r) (0 - 1) P k args w (Ret R) := by
    have := (callsIn_wide (n := 0)).2 hc
    cases r with
    | none => exact this
    | some l => exact CallsIn.inRound l this
  refine CallsIn.mono hc' fun e w' he => ?_
  cases e with
  | returned v => dsimp only; rw [put_act]; exact kk v w' he
  | panicked c => exact he.elim
  | outgrown => exact he.elim
theorem wl_call {k : FuncId} {args : List Operand} {tys : Array TypeId} {vals : List Value} {R : Value → World → Prop} (he : Ent P k) (ha : args.map (ev n f) = vals) (hc : Calls P k vals.toArray w (Ret R))
    (kk : ∀ v w', R v w' → wl P r n ops K rest (updo f d v) w') : wl P r n ops K (⟨d, .call ⟨.value (.func k), args.toArray, tys⟩, ty, pos, af, none⟩ :: rest) f w := by
  refine wl_enter ?_ hc kk
  subst ha
  simp [execOp, resolve, Deferred.ofValue, ev, invoke, run_callFunc he]
theorem wl_callv {x : Operand} {k : FuncId} {args : List Operand} {tys : Array TypeId} {vals caps : List Value} {R : Value → World → Prop} (he : Ent P k) (hx : ev n f x = .func (.func k) #[] caps.toArray)
    (ha : args.map (ev n f) = vals) (hc : Calls P k (vals ++ caps).toArray w (Ret R)) (kk : ∀ v w', R v w' → wl P r n ops K rest (updo f d v) w') :
    wl P r n ops K (⟨d, .call ⟨.value x, args.toArray, tys⟩, ty, pos, af, none⟩ :: rest) f w := by
  refine wl_enter ?_ hc kk
  subst ha
  simp [execOp, resolve, Deferred.ofValue, hx, invoke, run_callFunc he]
end
def wpl (P : Program) (r : Option Nat) (Q : FPost) : List Code → NF → Fr → World → Prop
  | [], n, f, w => Q .normal n f w
  | c :: cs, n, f, w => c.wpIn (FF r) 0 P (liftQ fun e n f w => match e with | .normal => wpl P r Q cs n f w | e => Q e n f w) (act n f) w
def wpc (P : Program) (r : Option Nat) (n : NF) (Q : FPost) (cs : List Code) (f : Fr) (w : World) : Prop := wpl P r Q cs n f w
section
variable {P : Program} {r : Option Nat} {n : NF} {Q : FPost} {cs : List Code} {f : Fr} {w : World}
theorem c_nil (h : Q .normal n f w) : wpc P r n Q [] f w := h
theorem c_seq {x y : Code} (h : wpc P r n Q (x :: y :: cs) f w) : wpc P r n Q (x.seq y :: cs) f w := by
  simp only [wpc, wpl] at *
  refine wpIn_seq ?_
  refine wpIn_mono h fun e a w hh => ?_
  cases e with
  | normal => obtain ⟨n', g, rfl, hg⟩ := hh; exact hg
  | _ => exact hh
theorem c_skip (h : wpc P r n Q cs f w) : wpc P r n Q (.skip :: cs) f w := wpIn_skip ⟨n, f, rfl, h⟩
theorem c_ret (h : Q .ret n f w) : wpc P r n Q (.ret :: cs) f w := wpIn_ret ⟨n, f, rfl, h⟩
theorem c_exit {id : Nat} (h : Q (.exit id) n f w) : wpc P r n Q (.exit id :: cs) f w := wpIn_exit ⟨n, f, rfl, h⟩
theorem c_cond {x : Operand} {a b : Code} {c : Bool} (hx : ev n f x = .bool c) (ht : c = true → wpc P r n Q (a :: cs) f w) (hf : c = false → wpc P r n Q (b :: cs) f w) :
    wpc P r n Q (.cond x a b :: cs) f w := by
  simp only [wpc, wpl] at *
  refine wpIn_cond_split (t := c) (by rw [eval_act]; exact hx) ht hf
theorem c_region {id : Nat} {l : List Oper} (h : wl P r n l.toArray (fun f w => wpc P r n Q cs f w) l f w) : wpc P r n Q (.region id l.toArray false :: cs) f w := by
  simp only [wpc, wpl] at *
  refine wpIn_mono (wpIn_region_lit h) fun e a w hh => ?_
  cases e with
  | normal => obtain ⟨g, rfl, hg⟩ := hh; exact ⟨n, g, rfl, hg⟩
  | _ => exact hh.elim
def blkQ (id : Nat) (N : NF → Fr → World → Prop) (Q : FPost) : FPost := fun e n f w =>
  match e with
  | .normal => N n f w
  | .exit id' => if id' = id then N n f w else Q (.exit id') n f w
  | e => Q e n f w
theorem c_block {id : Nat} {c : Code} (h : wpc P r n (blkQ id (fun n f w => wpc P r n Q cs f w) Q) [c] f w) : wpc P r n Q (.block id c :: cs) f w := by
  simp only [wpc, wpl] at *
  refine wpIn_block (wpIn_mono h fun e a w hh => ?_)
  obtain ⟨n', g, rfl, hg⟩ := hh
  cases e with
  | exit id' =>
    simp only [Exit.inBlock, blkQ] at *
    split at hg <;> rename_i hid <;> simp only [hid, if_true, if_false] <;> exact ⟨n', g, rfl, hg⟩
  | _ => exact ⟨n', g, rfl, hg⟩
theorem q_hit {id : Nat} {N : NF → Fr → World → Prop} (h : N n f w) : blkQ id N Q (.exit id) n f w := by simpa [blkQ] using h
theorem q_miss {id id' : Nat} {N : NF → Fr → World → Prop} (hne : id' ≠ id) (h : Q (.exit id') n f w) : blkQ id N Q (.exit id') n f w := by simpa [blkQ, hne] using h
def loopQ (N : NF → Fr → World → Prop) (Q : FPost) : FPost := fun e n f w =>
  match e with
  | .normal => N n f w
  | e => Q e n f w
theorem c_loopN {body : Code} (I : Nat → NF → Fr → World → Prop) (k0 : Nat) (h0 : I k0 n f w)
    (round : ∀ k n f w, I k n f w → wpc P r n (loopQ (fun n f w => ∃ j, j < k ∧ I j n f w) Q) [body] f w) : wpc P r n Q (.loop body :: cs) f w := by
  simp only [wpc, wpl] at *
  intro b kk cs' hro hb hr
  have key : ∀ k n f w, I k n f w → ∃ e a' w', (liftQ (fun e n f w => match e with | .normal => wpl P r Q cs n f w | e => Q e n f w)) e a' w' ∧
      ArrivesIn (Machine.fenced P (FF r)) P (lone (b.atR (act n f) (.code body :: .inLoop body :: kk)) cs' w) b kk cs' e a' w' := by
    intro k
    induction k using Nat.strongRecOn with
    | _ k ih =>
      intro n f w hI
      obtain ⟨e, a₁, w₁, ⟨n', g, rfl, hq⟩, harr⟩ := round k n f w hI b (.inLoop body :: kk) cs' hro hb hr
      cases e with
      | normal =>
        obtain ⟨j, hj, hI₁⟩ := hq
        obtain ⟨e₂, a₂, w₂, hq₂, harr₂⟩ := ih j hj n' g w₁ hI₁
        exact ⟨e₂, a₂, w₂, hq₂, .of_steps (StepsIn.trans harr (.one (fenced_calm hb hr rfl) stepR_inLoop)) harr₂⟩
      | exit id => exact ⟨_, _, w₁, ⟨n', g, rfl, hq⟩, .pass (x := .inLoop body) rfl (fun _ _ => .inl (by simp)) harr⟩
      | goto l => exact ⟨_, _, w₁, ⟨n', g, rfl, hq⟩, .pass (x := .inLoop body) rfl (fun _ _ => .inl (by simp)) harr⟩
      | ret => exact ⟨_, _, w₁, ⟨n', g, rfl, hq⟩, .pass (x := .inLoop body) rfl (fun _ _ => .inl (by simp)) harr⟩
      | panic ch => exact ⟨_, _, w₁, ⟨n', g, rfl, hq⟩, .pass (x := .inLoop body) rfl (fun _ _ => .inl (by simp)) harr⟩
      | outgrown => exact ⟨_, _, w₁, ⟨n', g, rfl, hq⟩, .pass (x := .inLoop body) rfl (fun _ _ => .inl (by simp)) harr⟩
  obtain ⟨e, a', w', hq, harr⟩ := key k0 n f w h0
  exact ⟨e, a', w', hq, .of_steps (.one (fenced_calm hb hr rfl) stepR_loop) harr⟩
theorem c_loop {body : Code} (I : Nat → Fr → World → Prop) (k0 : Nat) (h0 : I k0 f w)
    (round : ∀ k f w, I k f w → wpc P r n (loopQ (fun n' f w => n' = n ∧ ∃ j, j < k ∧ I j f w) Q) [body] f w) : wpc P r n Q (.loop body :: cs) f w := by
  refine c_loopN (fun k n' f w => n' = n ∧ I k f w) k0 ⟨rfl, h0⟩ ?_
  rintro k n' f w ⟨rfl, hI⟩
  have h := round k f w hI
  simp only [wpc, wpl] at *
  refine wpIn_mono h fun e a w hh => ?_
  obtain ⟨n2, g, rfl, hg⟩ := hh
  refine ⟨n2, g, rfl, ?_⟩
  cases e with
  | normal => obtain ⟨h1, j, h2, h3⟩ := hg; exact ⟨j, h2, h1, h3⟩
  | _ => exact hg
theorem c_know {t : Nat} {v : Value} (h : f t = v) (k : wpc P r n Q cs (upd f t v) w) : wpc P r n Q cs f w := fr_know (G := fun f => wpc P r n Q cs f w) h k
end
section
variable {P : Program} {f : FuncId} {fn : Func} {c : Code} {w : World}
def fr0 (args : List Value) : Fr := fun t => args.getD t undef
def retD (P : Program) (fn : Func) (R : Value → World → Prop) (N : Nat) (f : Fr) : List Nat → World → Prop
  | [], w => ∃ v, (results fn (act ⟨N, []⟩ f).tmps).run P w = .ok v w ∧ R v w
  | D :: ds, w => w.heap[D]? = some (.deferred (some [])) ∧ retD P fn R N f ds (w.putObj D (.deferred none))
def retQ (P : Program) (fn : Func) (R : Value → World → Prop) : FPost := fun e n f w =>
  match e with
  | .normal | .ret => retD P fn R n.n f n.ds w
  | _ => False
theorem enter {args : List Value} {n : Nat} {R : Value → World → Prop} (hf : P.funcs[f]? = some fn) (hb : fn.body = some c) (hn : fn.ntmps = n) (hl : args.length ≤ n)
    (h : wpc P none ⟨n, []⟩ (retQ P fn R) [c] (fr0 args) w) : Calls P f args.toArray w (Ret R) := by
  refine (callsIn_wide (n := 0)).1 (callsIn_of_wp_marks hf hb trivial ?_)
  have he : ({ tmps := args.toArray ++ Array.replicate (fn.ntmps - args.toArray.size) undef, defers := [] } : Act) = act ⟨n, []⟩ (fr0 args) := by
    simp only [act]
    congr 1
    apply Array.ext
    · simp [hn]; omega
    · intro i h1 h2
      simp only [Array.getElem_ofFn, fr0, List.getD_eq_getElem?_getD]
      rw [Array.getElem_append]
      split
      · rename_i hi
        have : i < args.length := by simpa using hi
        simp [List.getElem?_eq_getElem this]
      · rename_i hi
        have : args[i]? = none := List.getElem?_eq_none (by simpa using hi)
        simp [this]
  rw [he]
  simp only [wpc, wpl] at h
  refine wpIn_mono h fun e a w hh => ?_
  obtain ⟨n', g, rfl, hg⟩ := hh
  have key : ∀ (ds : List Nat) (w : World), retD P fn R n'.n g ds w → LeavesInM Fence.wide 0 P fn (act n' g).tmps (Ret R) (ds.map mkD) .returning w := by
    intro ds
    induction ds with
    | nil => intro w h; exact h
    | cons D ds ih => intro w h; exact ⟨by simp, .inl ⟨D, _, rfl, run_takeDeferred h.1, ih _ h.2⟩⟩
  cases e with
  | normal => exact key _ _ hg
  | ret => exact key _ _ hg
  | exit id => exact hg.elim
  | goto l => exact hg.elim
  | panic c => exact hg.elim
  | outgrown => exact hg.elim
theorem getD_act {n : NF} {t : Nat} {g : Fr} : (act n g).tmps.getD t undef = ev n g (.tmp t) := by
  have := congrFun (eval_act n g) (.tmp t)
  simpa [Act.eval] using this
theorem ret_tmp {N t : Nat} {g : Fr} {v : Value} {R : Value → World → Prop} (hr : fn.results = #[.tmp t]) (hv : ev ⟨N, []⟩ g (.tmp t) = v) (hR : R v w) : retQ P fn R .ret ⟨N, []⟩ g w :=
  ⟨v, by rw [results_tmp hr, getD_act, hv], hR⟩
theorem ret_none {N : Nat} {g : Fr} {R : Value → World → Prop} (hr : fn.results = #[]) (hR : R (.tuple #[]) w) : retQ P fn R .ret ⟨N, []⟩ g w :=
  ⟨_, by rw [results_none hr], hR⟩
theorem end_none {N : Nat} {g : Fr} {R : Value → World → Prop} (hr : fn.results = #[]) (hR : R (.tuple #[]) w) : retQ P fn R .normal ⟨N, []⟩ g w :=
  ⟨_, by rw [results_none hr], hR⟩
inductive Res (P : Program) (n : NF) (g : Fr) (w : World) : List ResultVar → List Value → Prop
  | nil : Res P n g w [] []
  | tmp {t : Nat} {v : Value} {rs vs} (h : ev n g (.tmp t) = v) (k : Res P n g w rs vs) : Res P n g w (.tmp t :: rs) (v :: vs)
  | cell {t : Nat} {a : Addr} {e : TypeId} {v : Value} {rs vs} (h : ev n g (.tmp t) = .pointer (some a)) (hl : (loadVar e a).run P w = .ok v w) (k : Res P n g w rs vs) : Res P n g w (.cell t e :: rs) (v :: vs)
def resV (tmps : Array Value) : ResultVar → Sem Value
  | .tmp t => pure (tmps.getD t undef)
  | .cell a t => do loadVar t (← asAddr (tmps.getD a undef))
theorem results_eq (fn : Func) (tmps : Array Value) : results fn tmps = (do
    let vs ← fn.results.mapM (resV tmps)
    pure (if h : vs.size = 1 then vs[0] else .tuple vs)) := rfl
theorem Res.run {n : NF} {g : Fr} {rs : List ResultVar} {vs : List Value} (h : Res P n g w rs vs) :
    (rs.mapM (resV (act n g).tmps)).run P w = .ok vs w := by
  induction h with
  | nil => simp
  | tmp h k ih => simp only [List.mapM_cons, resV, Sem.run_bind, getD_act, h, Sem.run_pure, Result.andThen_ok, ih]
  | cell h hl k ih => simp only [List.mapM_cons, resV, Sem.run_bind, getD_act, h, Sem.run_pure, Result.andThen_ok, asAddr, hl, ih]
def one (vs : List Value) : Value := if vs.length = 1 then vs.headD undef else .tuple vs.toArray
theorem ret_many {N : Nat} {g : Fr} {vs : List Value} {R : Value → World → Prop} {rs : List ResultVar} (hr : fn.results = rs.toArray) (hv : Res P ⟨N, []⟩ g w rs vs) (hR : R (one vs) w) :
    retQ P fn R .ret ⟨N, []⟩ g w := by
  refine ⟨_, ?_, hR⟩
  have := hv.run
  rw [results_eq, hr]
  simp only [List.mapM_toArray, Sem.run_bind, Sem.run_map, this, Result.andThen_ok, Sem.run_pure]
  match vs with
  | [] => rfl
  | [v] => rfl
  | v :: u :: r => simp [one]
end
attribute [irreducible] wl wpl wpc
end Go.K
