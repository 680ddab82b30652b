/- Maps with integer keys that the function itself has made; no program is named here. -/
import Derived.Test.YtdhhimfcjoclfaaKO
set_option linter.unusedVariables false
set_option linter.unusedSimpArgs false
namespace Go.K
open Go
def RV {α : Type} (agg : Bool) (R : Mem → List Value → α → Prop) (m : Mem) (v : Value) (x : α) : Prop := ∃ cs, v = pack agg cs ∧ R m cs x
inductive RMap {α : Type} (agg : Bool) (R : Mem → List Value → α → Prop) (m : Mem) : List MapEntry → List (Int × α) → Prop
  | nil : RMap agg R m [] []
  | cons {e es k x xs} (hk : e.key = .int .i64 k) (hv : RV agg R m e.val x) (h : RMap agg R m es xs) : RMap agg R m (e :: es) ((k, x) :: xs)
def mget {α : Type} (xs : List (Int × α)) (k : Int) : Option α := xs.lookup k
def mset {α : Type} (k : Int) (v : α) : List (Int × α) → List (Int × α)
  | [] => [(k, v)]
  | (a, b) :: r => bif decide (k = a) then (k, v) :: r else (a, b) :: mset k v r
section
variable {P : Program} {α : Type} {agg : Bool} {R : Mem → List Value → α → Prop} {m : Mem}
theorem findNow_int {es : List MapEntry} {xs : List (Int × α)} (h : RMap agg R m es xs) (k : Int) : ∀ i, ∃ r, Instr.findNow (.int .i64) (.int .i64 k) es i = some r ∧
    match r with
    | none => mget xs k = none ∧ ∀ v, mset k v xs = xs ++ [(k, v)]
    | some (j, v) => ∃ x d, mget xs k = some x ∧ RV agg R m v x ∧ j = i + d ∧ d < es.length ∧ (∃ e, es[d]? = some e ∧ e.key = .int .i64 k) ∧ ∀ (y : α) (u : Value), RV agg R m u y → RMap agg R m (es.modify d fun e => { e with key := .int .i64 k, val := u }) (mset k y xs) := by
  induction h with
  | nil => intro i; exact ⟨none, rfl, rfl, fun v => rfl⟩
  | @cons e es a x xs hk hv h ih =>
    intro i
    simp only [Instr.findNow, hk, Instr.sameNow, if_true]
    by_cases hka : k = a
    · subst hka
      refine ⟨some (i, e.val), by simp, x, 0, by simp [mget, List.lookup], hv, rfl, by simp, ⟨e, rfl, hk⟩, fun y u hu => ?_⟩
      simp only [mset, decide_true, cond, List.modify_zero_cons]
      exact .cons rfl hu h
    · obtain ⟨r, hr, hm⟩ := ih (i + 1)
      have hne : (k == a) = false := by simpa using hka
      refine ⟨r, by simp [hne, hr], ?_⟩
      have hg : mget ((a, x) :: xs) k = mget xs k := by simp [mget, List.lookup, hne]
      have hs : ∀ v, mset k v ((a, x) :: xs) = (a, x) :: mset k v xs := fun v => by simp [mset, hka]
      cases r with
      | none => exact ⟨hg.trans hm.1, fun v => by rw [hs, hm.2]; rfl⟩
      | some jv =>
        obtain ⟨j, v⟩ := jv
        obtain ⟨x', d, h1, h2, h3, h4, ⟨e', h5, h6⟩, h7⟩ := hm
        refine ⟨x', d + 1, hg.trans h1, h2, by omega, by simp; omega, ⟨e', by simpa using h5, h6⟩, fun y u hu => ?_⟩
        rw [hs, List.modify_succ_cons]
        exact .cons hk hv (h7 y u hu)
theorem RMap.snoc {es : List MapEntry} {xs : List (Int × α)} (h : RMap agg R m es xs) {k : Int} {v : Value} {x : α} (hv : RV agg R m v x) (b : Nat) : RMap agg R m (es ++ [{ key := .int .i64 k, val := v, born := b }]) (xs ++ [(k, x)]) := by
  induction h with
  | nil => exact .cons rfl hv .nil
  | cons hk hv' _ ih => exact .cons hk hv' ih
variable {r : Option Nat} {n : NF} {ops : Array Oper} {K : Fr → World → Prop} {rest : List Oper} {f : Fr} {w : World} {L : List Atom}
  {d : Option Nat} {ty : TypeId} {pos : String} {af : Array Edge}
theorem wl_makeMap {t : TypeId} (hS : St w m L) (k : ∀ b w', St w' m (.raw b (.map #[] 0) :: L) → wl P r n ops K rest (updo f d (.map (some b))) w') : wl P r n ops K (⟨d, .makeMap t none, ty, pos, af, none⟩ :: rest) f w := by
  refine wl_run (w' := w.alloc (.map #[] 0)) ?_ (k _ _ (hS.raw _))
  simp [execOp, Instr.makeMap, newObj, Sem.run]
theorem run_getObj {b ck : Nat} {es : Array MapEntry} (h : w.heap[b]? = some (.map es ck)) : (getObj b).run P w = .ok (.map es ck) w := by
  simp [getObj, Sem.run, h]
theorem run_checkKey {t : TypeId} {e : Bool} {k : IntKind} {a : Int} {k' : IntKind} (ht : P.underlying t = some (.int k')) : (Instr.checkKey e 10000 t (.int k a)).run P w = .ok () w := by
  unfold Instr.checkKey
  simp [run_underlying ht]
def Found (es : List MapEntry) (k : Int) (z cs : List Value) (agg b : Bool) : Prop :=
  ∃ r, Instr.findNow (.int .i64) (.int .i64 k) es 0 = some r ∧ match r with | none => cs = z ∧ b = false | some (_, v) => v = pack agg cs ∧ b = true
theorem RMap.found {es : List MapEntry} {xs : List (Int × α)} {z : List Value} {x0 : α} (hr : RMap agg R m es xs) (hz : R m z x0) (k : Int) : ∃ cs, Found es k z cs agg (mget xs k).isSome ∧ R m cs ((mget xs k).getD x0) := by
  obtain ⟨r, hf, hm⟩ := findNow_int hr k 0
  cases r with
  | none => exact ⟨z, ⟨none, hf, rfl, by rw [hm.1]; rfl⟩, by rw [hm.1]; exact hz⟩
  | some jv =>
    obtain ⟨j, v⟩ := jv
    obtain ⟨x', dd, h1, ⟨cs, rfl, h2⟩, _⟩ := hm
    exact ⟨cs, ⟨_, hf, rfl, by rw [h1]; rfl⟩, by rw [h1]; exact h2⟩
theorem r_lookup {ρ : Operand → Value} {g : Option (Nat × Bool)} {t kt e : TypeId} {s bytes : Nat} {z cs : List Value} {x ix : Operand} {b ck : Nat} {es : List MapEntry} {k : Int} {bb : Bool}
    (hu : P.underlying t = some (.map kt e)) (hkt : P.underlying kt = some (.int .i64)) (he : TyI P e agg s bytes z) (ho : Own L (.raw b (.map es.toArray ck))) (hf : Found es k z cs agg bb) (hx : ρ x = .map (some b)) (hi : ρ ix = .int .i64 k)
    {v : Value} (hv : pack agg cs = v) : RunV P (fun w => Held w m L) ⟨d, .lookup t x ix false, ty, pos, af, g⟩ ρ v := fun w hw => by
  have hb : w.heap[b]? = some (.map es.toArray ck) := hw.own ho
  subst hv
  obtain ⟨r, h1, h2⟩ := hf
  cases r with
  | none => obtain ⟨rfl, _⟩ := h2; simp [execOp, hx, hi, Instr.lookup, run_underlying hu, run_getObj hb, run_checkKey hkt, Instr.findKey, run_underlying hkt, h1, he.run_zero]
  | some jv => obtain ⟨j, v⟩ := jv; obtain ⟨rfl, _⟩ := h2; simp [execOp, hx, hi, Instr.lookup, run_underlying hu, run_getObj hb, run_checkKey hkt, Instr.findKey, run_underlying hkt, h1]
theorem run_setObj {b ck : Nat} {es : Array MapEntry} {o : Obj} (h : w.heap[b]? = some (.map es ck)) : (setObj b o).run P w = .ok () (w.putObj b o) := by
  simp [setObj, Sem.run, World.putObj, h]
theorem wl_mapUpdate {t kt e : TypeId} {x ix y : Operand} {b ck : Nat} {es : List MapEntry} {xs : List (Int × α)} {k : Int} {v : Value} {a : α} {L' : List Atom}
    (hu : P.underlying t = some (.map kt e)) (hkt : P.underlying kt = some (.int .i64)) (hS : St w m L) (hx : ev n f x = .map (some b)) (hi : ev n f ix = .int .i64 k) (hy : ev n f y = v) (hd : Drop L (.raw b (.map es.toArray ck)) L') (hr : RMap agg R m es xs) (hv : RV agg R m v a)
    (kk : ∀ es' ck' w', RMap agg R m es' (mset k a xs) → St w' m (.raw b (.map es'.toArray ck') :: L') → wl P r n ops K rest (updo f d undef) w') :
    wl P r n ops K (⟨d, .mapUpdate t x ix y, ty, pos, af, none⟩ :: rest) f w := by
  have h1 := hS.front hd
  have hb : w.heap[b]? = some (.map es.toArray ck) := h1.ok _ (.head _)
  obtain ⟨q, hf, hm⟩ := findNow_int hr k 0
  cases q with
  | none =>
    refine wl_skip (w' := w.putObj b (.map (es ++ [({ key := .int .i64 k, val := v, born := ck } : MapEntry)]).toArray (ck + 1))) ?_ (kk _ _ _ (by rw [hm.2]; exact hr.snoc hv ck) (h1.putRaw .here))
    have e : (es ++ [{ key := Value.int .i64 k, val := v, born := ck : MapEntry }]).toArray = es.toArray.push { key := .int .i64 k, val := v, born := ck } := by simp
    simp only [execOp, hx, hi, hy, Instr.mapUpdate, Sem.run_bind, run_underlying hu, run_getObj hb, run_checkKey hkt, Instr.findKey, run_underlying hkt, Result.andThen_ok, hf, Sem.run_pure, run_setObj hb, e]
  | some jv =>
    obtain ⟨j, u⟩ := jv
    obtain ⟨x', dd, _, _, hj, hlt, ⟨e', h5, h6⟩, h7⟩ := hm
    obtain rfl : j = dd := by omega
    refine wl_skip (w' := w.putObj b (.map (es.modify j fun (e : MapEntry) => { e with key := .int .i64 k, val := v }).toArray ck)) ?_ (kk _ _ _ (h7 _ _ hv) (h1.putRaw .here))
    have e : (es.modify j fun (e : MapEntry) => { e with key := Value.int .i64 k, val := v }).toArray = es.toArray.modify j fun (e : MapEntry) => { e with key := Value.int .i64 k, val := v } := by
      simp [List.modify_toArray]
    have h8 : (((es.toArray[j]?).map (·.key)).getD (Value.int .i64 k)) = Value.int .i64 k := by simp [h5, h6]
    have h9 : (Instr.keyThatStays (Value.int .i64 k) (Value.int .i64 k)).run P w = .ok (.int .i64 k) w := by
      unfold Instr.keyThatStays
      simp [Instr.sameBits]
    simp only [execOp, hx, hi, hy, Instr.mapUpdate, Sem.run_bind, run_underlying hu, run_getObj hb, run_checkKey hkt, Instr.findKey, run_underlying hkt, Result.andThen_ok, hf, Sem.run_pure, h8, h9, run_setObj hb, e]
end
end Go.K
