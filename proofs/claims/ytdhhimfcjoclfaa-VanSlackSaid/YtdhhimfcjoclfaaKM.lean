/- Ranges over functions: a call of yield, and the statement; no program is named here. -/
import Derived.Test.YtdhhimfcjoclfaaKL
set_option linter.unusedVariables false
set_option linter.unusedSimpArgs false
namespace Go.K
open Go
theorem St.perm {w : World} {m : Mem} {L L' : List Atom} (h : St w m L) (hp : L.Perm L') : St w m L' :=
  { imm := h.imm, ok := fun B hB => h.ok B (hp.mem_iff.2 hB), sep := fun B hB => h.sep B (hp.mem_iff.2 hB), dis := (hp.pairwise_iff Apart.symm).1 h.dis, os := h.os, tape := h.tape, output := h.output }
theorem St.putRaw {w : World} {m : Mem} {L L' : List Atom} {l : Nat} {o o' : Obj} (h : St w m L) (hs : Swap L (.raw l o) (.raw l o') L') : St (w.putObj l o') m L' := by
  have hok : w.heap[l]? = some o := h.ok _ hs.mem
  have hlt : l < w.heap.size := (Array.getElem?_eq_some_iff.1 hok).1
  refine h.swap hs rfl rfl rfl (fun i hi => .inl hi) ?_ fun i _ hne => ?_
  · show (w.putObj l o').heap[l]? = some o'
    simp [World.putObj, hlt]
  · have : l ≠ i := fun e => hne (by subst e; rfl)
    simp [World.putObj, Array.getElem?_setIfInBounds, this]
theorem Own.left {L E : List Atom} {A : Atom} (h : Own L A) : Own (L ++ E) A := by
  induction h with
  | here => exact .here
  | there _ ih => exact .there ih
def Yields (P : Program) (l : Nat) (vals : List Value) (w : World) (R : Value → World → Prop) : Prop :=
  ∃ fn tmps assign body, (Instr.yield l vals.toArray).run P w = .ok (.round l fn tmps assign body) w ∧ RoundIn Fence.wide 0 P l fn tmps assign body w (Ret R)
section
variable {P : Program} {n : NF} {ops : Array Oper} {K : Fr → World → Prop} {rest : List Oper} {f : Fr} {w : World} {m : Mem} {L : List Atom}
  {d : Option Nat} {ty : TypeId} {pos : String} {af : Array Edge}
theorem wl_yield {x : Operand} {l : Nat} {args : List Operand} {tys : Array TypeId} {vals : List Value} {R : Value → World → Prop} (hx : ev n f x = .func (.yield l) #[] #[]) (ha : args.map (ev n f) = vals)
    (hy : Yields P l vals w R) (kk : ∀ v w', R v w' → wl P none n ops K rest (updo f d v) w') : wl P none n ops K (⟨d, .call ⟨.value x, args.toArray, tys⟩, ty, pos, af, none⟩ :: rest) f w := by
  obtain ⟨fn, tmps, assign, body, h1, h2⟩ := hy
  have h : (execOp (ev n f) ⟨d, .call ⟨.value x, args.toArray, tys⟩, ty, pos, af, none⟩).run P w = .ok (.round l fn tmps assign body) w := by
    subst ha
    simp [execOp, resolve, Deferred.ofValue, hx, invoke, h1]
  have hd := nodefer h (by simp)
  unfold wl at *
  simp only [wpListIn, Region.wanted, if_true, Oper.wpIn, sem_eq hd, eval_act, h, Oper.uponIn]
  refine ⟨fun _ _ => trivial, (fun hd => by cases hd), ?_⟩
  refine RoundIn.mono h2 fun e w' he => ?_
  cases e with
  | returned v => dsimp only; rw [put_act]; exact kk v w' he
  | panicked c => exact he.elim
  | outgrown => exact he.elim
theorem c_rangeFunc {Q : FPost} {cs : List Code} {g : Operand} {ps : Array Tmp} {assign body : Code} {k : FuncId} {caps : List Value} (he : Ent P k) (hg : ev n f g = .func (.func k) #[] caps.toArray) (hS : St w m L)
    (h : ∀ (fn : FuncId) (D l : Nat) (w1 : World) (rec : Loop), rec = { state := .ready, pending := none, fn, tmps := (act n f).tmps, params := ps, assign, body, defers := D } →
      St w1 m (.raw l (.loop rec) :: .raw D (.deferred (some [])) :: L) →
      Calls P k (Value.func (.yield l) #[] #[] :: caps).toArray w1 (Ret fun v w3 => ∃ m' L', St w3 m' (.raw l (.loop rec) :: .raw D (.deferred (some [])) :: L') ∧
        ∀ w4, St w4 m' (.raw D (.deferred (some [])) :: L') → wpc P none ⟨n.n, D :: n.ds⟩ Q cs f w4)) : wpc P none n Q (.rangeFunc g ps assign body :: cs) f w := by
  simp only [wpc, wpl] at *
  refine wpIn_rangeFunc fun fn hfn => ?_
  have hS1 := (hS.raw (.deferred (some []))).raw (.loop { state := .ready, pending := none, fn, tmps := (act n f).tmps, params := ps, assign, body, defers := w.heap.size })
  have hc := h fn w.heap.size (w.alloc (.deferred (some []))).heap.size _ _ rfl hS1
  have hen := run_enterLoop_outer (P := P) (w := w) fn (act n f).tmps ps assign body
  generalize (w.alloc (.deferred (some []))).alloc (.loop { state := .ready, pending := none, fn, tmps := (act n f).tmps, params := ps, assign, body, defers := w.heap.size }) = W1 at hS1 hc hen
  refine ⟨w.heap.size + 1, [{ target := .collected w.heap.size, args := #[] }], W1, { target := .fn (.func k) caps.toArray, args := #[.func (.yield (w.heap.size + 1)) #[] #[]] }, W1, k,
    #[.func (.yield (w.heap.size + 1)) #[] #[]] ++ caps.toArray, W1, hen, ?_, ?_, ?_, (fun h => by cases h), ?_⟩
  · simp only [resolve, eval_act, hg]
    simp [go_sem, ev]
  · intro f' _; trivial
  · simp [invoke, run_callFunc he]
  · have e : (Value.func (.yield (w.heap.size + 1)) #[] #[] :: caps).toArray = #[.func (.yield (w.heap.size + 1)) #[] #[]] ++ caps.toArray := by simp
    have hsz : (w.alloc (.deferred (some []))).heap.size = w.heap.size + 1 := World.size_alloc ..
    rw [hsz, e] at hc
    refine CallsIn.mono ((callsIn_wide (n := 0 - 1)).2 hc) fun en w3 hr => ?_
    cases en with
    | returned v =>
      obtain ⟨m', L', h3, h4⟩ := hr
      have hl := h3.ok _ (.head _)
      refine ⟨none, _, run_endLoop hl (by simp), ?_⟩
      have h5 := h3.putRaw (o' := .loop { state := .exhausted, pending := none, fn, tmps := (act n f).tmps, params := ps, assign, body, defers := w.heap.size }) .here
      exact ⟨⟨n.n, w.heap.size :: n.ds⟩, f, rfl, h4 _ (h5.weaken (.cons _ (.refl _)))⟩
    | panicked c => exact hr.elim
    | outgrown => exact hr.elim
def setps (f : Fr) : List Nat → List Value → Fr
  | p :: ps, v :: vs => setps (upd f p v) ps vs
  | _, _ => f
theorem setps_tmps {N : Nat} {ds : List Nat} : ∀ (ps : List Nat) (vs : List Value) (f : Fr), (ps.zip vs).foldl (fun tmps (t, a) => tmps.setIfInBounds t a) (act ⟨N, ds⟩ f).tmps = (act ⟨N, []⟩ (setps f ps vs)).tmps
  | [], _, f => rfl
  | _ :: _, [], f => rfl
  | p :: ps, v :: vs, f => by
    have h := congrArg Act.tmps (put_act ⟨N, ds⟩ f (some p) v)
    simp only [Act.put, updo] at h
    simp only [List.zip_cons_cons, List.foldl_cons, h]
    exact setps_tmps ps vs _
def busy (q : Loop) : Loop := { q with state := .busy }
def roundE (l : Nat) (q : Loop) (R : Value → World → Prop) : FPost := fun e n f w =>
  match e with
  | .normal => ∃ m L, St w m (.raw l (.loop (busy q)) :: L) ∧ ∀ w', St w' m (.raw l (.loop q) :: L) → R (.bool true) w'
  | _ => False
def roundB (P : Program) (l : Nat) (q : Loop) (body : Code) (R : Value → World → Prop) : FPost := fun e n f w =>
  match e with
  | .normal => ∃ m L, St w m (.raw l (.loop q) :: L) ∧ ∀ w', St w' m (.raw l (.loop (busy q)) :: L) → wpc P (some l) n (roundE l q R) [body] f w'
  | _ => False
theorem yields_of {l : Nat} {q : Loop} {ps : List Nat} {vals : List Value} {R : Value → World → Prop} (hS : St w m (.raw l (.loop q) :: L)) (h1 : q.state = .ready) (h2 : q.pending = none) (h3 : q.tmps = (act n f).tmps) (h4 : q.params = ps.toArray)
    {assign body : Code} (h5 : q.assign = assign) (h6 : q.body = body) (hl : vals.length = ps.length) (h : wpc P (some l) ⟨n.n, []⟩ (roundB P l q body R) [assign] (setps f ps vals) w) : Yields P l vals w R := by
  subst h5 h6
  have hq := hS.ok _ (.head _)
  refine ⟨q.fn, _, q.assign, q.body, run_yield hq (by simp [h4, hl]), ?_⟩
  have ht : (q.params.zip vals.toArray).foldl (fun tmps (t, a) => tmps.setIfInBounds t a) q.tmps = (act ⟨n.n, []⟩ (setps f ps vals)).tmps := by
    rw [h3, h4, ← setps_tmps (ds := n.ds)]
    simp [List.zip_toArray]
  rw [ht]
  refine roundIn_of_wpIn (F := Fence.wide) trivial ?_
  simp only [wpc, wpl] at h
  refine wpIn_mono h fun e a w' hh => ?_
  obtain ⟨n', g, rfl, hg⟩ := hh
  cases e with
  | normal =>
    obtain ⟨m', L', hS', hb⟩ := hg
    have hq' : w'.heap[l]? = some (.loop q) := hS'.ok _ (.head _)
    refine ⟨_, run_beginRound hq' h1, ?_⟩
    have hb := hb _ (hS'.putRaw (o' := .loop (busy q)) .here)
    simp only [wpc, wpl] at hb
    refine wpIn_mono hb fun e a w2 hh => ?_
    obtain ⟨n2, g2, rfl, hg2⟩ := hh
    cases e with
    | normal =>
      obtain ⟨m2, L2, hS2, hR⟩ := hg2
      have hq2 : w2.heap[l]? = some (.loop (busy q)) := hS2.ok _ (.head _)
      refine ⟨_, _, run_endRound none hq2, ?_⟩
      have e : ({ busy q with state := if (none : Option Code).isNone then .ready else .done, pending := none } : Loop) = q := by
        cases q; simp only [busy] at *; simp_all
      rw [e]
      exact hR _ (hS2.putRaw .here)
    | ret => exact hg2.elim
    | exit id => exact hg2.elim
    | goto t => exact hg2.elim
    | panic c => exact hg2.elim
    | outgrown => exact hg2.elim
  | ret => exact hg.elim
  | exit id => exact hg.elim
  | goto t => exact hg.elim
  | panic c => exact hg.elim
  | outgrown => exact hg.elim
theorem ret_mark {fn : Func} {R : Value → World → Prop} {N D : Nat} {ds : List Nat} {L' : List Atom} (hS : St w m L) (hd : Drop L (.raw D (.deferred (some []))) L') (h : ∀ w', St w' m L' → retQ P fn R .ret ⟨N, ds⟩ f w') : retQ P fn R .ret ⟨N, D :: ds⟩ f w := by
  have h1 := hS.front hd
  exact ⟨h1.ok _ (.head _), h _ ((h1.putRaw (o' := .deferred none) .here).weaken (.cons _ (.refl _)))⟩
theorem Calls.ret_mono {k : FuncId} {args : Array Value} {R R' : Value → World → Prop} (h : Calls P k args w (Ret R)) (hr : ∀ v w', R v w' → R' v w') : Calls P k args w (Ret R') :=
  (callsIn_wide (n := 0)).1 (CallsIn.mono ((callsIn_wide (n := 0)).2 h) fun e w' he => by cases e <;> first | exact hr _ _ he | exact he)
end
end Go.K
