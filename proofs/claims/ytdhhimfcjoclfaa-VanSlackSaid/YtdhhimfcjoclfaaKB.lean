/- The runs of operations that only compute or read memory, for walking loaded Go code; no program is named here. -/
import Derived.Test.YtdhhimfcjoclfaaKA
import Derived.IntWalk
import Derived.Laws.Small
import Derived.Laws.Entries
import Derived.Lib.SliceRun
import Derived.WalkSpells
set_option linter.unusedVariables false
set_option linter.unusedSimpArgs false
namespace Go.K
open Go
def RunV (P : Program) (S : World → Prop) (o : Oper) (ρ : Operand → Value) (v : Value) : Prop :=
  ∀ w, S w → (execOp ρ o).run P w = .ok (.value v) w
section
variable {P : Program} {S : World → Prop} {ρ : Operand → Value} {d : Option Nat} {ty : TypeId} {pos : String} {af : Array Edge} {g : Option (Nat × Bool)}
theorem r_move {x : Operand} {v : Value} (h : ρ x = v) : RunV P S ⟨d, .move x, ty, pos, af, g⟩ ρ v := fun w _ => by
  simp [execOp, h]
theorem r_assign {x : Operand} {v : Value} (h : ρ x = v) : RunV P S ⟨d, .assign x, ty, pos, af, g⟩ ρ v := fun w _ => by
  simp [execOp, h]
theorem r_pick_t {c x y : Operand} {v : Value} (hc : ρ c = .bool true) (h : ρ x = v) : RunV P S ⟨d, .pick c x y, ty, pos, af, g⟩ ρ v := fun w _ => by
  simp [execOp, h, hc, asBool]
theorem r_pick_f {c x y : Operand} {v : Value} (hc : ρ c = .bool false) (h : ρ y = v) : RunV P S ⟨d, .pick c x y, ty, pos, af, g⟩ ρ v := fun w _ => by
  simp [execOp, h, hc, asBool]
theorem r_extract {x : Operand} {i : Nat} {vs : List Value} {v : Value} (hx : ρ x = .tuple vs.toArray) (h : vs[i]? = some v) : RunV P S ⟨d, .extract x i, ty, pos, af, g⟩ ρ v := fun w _ => by
  simp [execOp, hx, Instr.extract, h]
def i64ok (n : Int) : Prop := -9223372036854775808 ≤ n ∧ n ≤ 9223372036854775807
theorem wrap_i64 {n : Int} (h : -9223372036854775808 ≤ n) (h' : n ≤ 9223372036854775807) : IntKind.i64.wrap n = n := by
  exact IntWalk.i64_in n ⟨h, h'⟩
theorem run_bin {op : BinOp} {t : TypeId} {x y : Operand} {k : IntKind} {a b : Int} {t' : TypeId} (hx : ρ x = .int k a) (hy : ρ y = .int k b) (w : World) :
    (execOp ρ ⟨d, .binOp op t x y t', ty, pos, af, g⟩).run P w = ((binOp op t (.int k a) (.int k b)).run P w).andThen fun v w' => .ok (.value v) w' := by
  simp only [execOp, hx, hy]
  have : (eqGuard op t x y (.int k a) (.int k b)).run P w = .ok () w := by
    unfold eqGuard; split <;> rfl
  simp [this]
theorem r_add {t t' : TypeId} {x y : Operand} {a b : Int} (hx : ρ x = .int .i64 a) (hy : ρ y = .int .i64 b) (h : -9223372036854775808 ≤ a + b) (h' : a + b ≤ 9223372036854775807) :
    RunV P S ⟨d, .binOp .add t x y t', ty, pos, af, g⟩ ρ (.int .i64 (a + b)) := fun w _ => by
  rw [run_bin hx hy]; simp [binOp, Op.intArith, wrap_i64 h h']
theorem r_sub {t t' : TypeId} {x y : Operand} {a b : Int} (hx : ρ x = .int .i64 a) (hy : ρ y = .int .i64 b) (h : -9223372036854775808 ≤ a - b) (h' : a - b ≤ 9223372036854775807) :
    RunV P S ⟨d, .binOp .sub t x y t', ty, pos, af, g⟩ ρ (.int .i64 (a - b)) := fun w _ => by
  rw [run_bin hx hy]; simp [binOp, Op.intArith, wrap_i64 h h']
theorem r_mul {t t' : TypeId} {x y : Operand} {a b : Int} (hx : ρ x = .int .i64 a) (hy : ρ y = .int .i64 b) (h : -9223372036854775808 ≤ a * b) (h' : a * b ≤ 9223372036854775807) :
    RunV P S ⟨d, .binOp .mul t x y t', ty, pos, af, g⟩ ρ (.int .i64 (a * b)) := fun w _ => by
  rw [run_bin hx hy]; simp [binOp, Op.intArith, wrap_i64 h h']
theorem r_remt {t t' : TypeId} {x y : Operand} {a b : Int} (hx : ρ x = .int .i64 a) (hy : ρ y = .int .i64 b) (hb : b ≠ 0) :
    RunV P S ⟨d, .binOp .rem t x y t', ty, pos, af, g⟩ ρ (.int .i64 (a.tmod b)) := fun w _ => by
  rw [run_bin hx hy]; simp [binOp, Op.intDiv, hb]
theorem r_eql {k : IntKind} {t t' : TypeId} {x y : Operand} {a b : Int} (hx : ρ x = .int k a) (hy : ρ y = .int k b) :
    RunV P S ⟨d, .binOp .eql t x y t', ty, pos, af, g⟩ ρ (.bool (decide (a = b))) := fun w _ => by
  rw [run_bin hx hy]; simp [binOp, Op.intCmp]; by_cases h : a = b <;> simp [h]
theorem r_neq {k : IntKind} {t t' : TypeId} {x y : Operand} {a b : Int} (hx : ρ x = .int k a) (hy : ρ y = .int k b) :
    RunV P S ⟨d, .binOp .neq t x y t', ty, pos, af, g⟩ ρ (.bool (decide (a ≠ b))) := fun w _ => by
  rw [run_bin hx hy]; simp [binOp, Op.intCmp]; by_cases h : a = b <;> simp [h]
theorem r_lss {k : IntKind} {t t' : TypeId} {x y : Operand} {a b : Int} (hx : ρ x = .int k a) (hy : ρ y = .int k b) :
    RunV P S ⟨d, .binOp .lss t x y t', ty, pos, af, g⟩ ρ (.bool (decide (a < b))) := fun w _ => by
  rw [run_bin hx hy]; simp [binOp, Op.intCmp]
theorem r_leq {k : IntKind} {t t' : TypeId} {x y : Operand} {a b : Int} (hx : ρ x = .int k a) (hy : ρ y = .int k b) :
    RunV P S ⟨d, .binOp .leq t x y t', ty, pos, af, g⟩ ρ (.bool (decide (a ≤ b))) := fun w _ => by
  rw [run_bin hx hy]; simp [binOp, Op.intCmp]
theorem r_gtr {k : IntKind} {t t' : TypeId} {x y : Operand} {a b : Int} (hx : ρ x = .int k a) (hy : ρ y = .int k b) :
    RunV P S ⟨d, .binOp .gtr t x y t', ty, pos, af, g⟩ ρ (.bool (decide (b < a))) := fun w _ => by
  rw [run_bin hx hy]; simp [binOp, Op.intCmp]
theorem r_geq {k : IntKind} {t t' : TypeId} {x y : Operand} {a b : Int} (hx : ρ x = .int k a) (hy : ρ y = .int k b) :
    RunV P S ⟨d, .binOp .geq t x y t', ty, pos, af, g⟩ ρ (.bool (decide (b ≤ a))) := fun w _ => by
  rw [run_bin hx hy]; simp [binOp, Op.intCmp]
theorem r_not {t : TypeId} {x : Operand} {b : Bool} (hx : ρ x = .bool b) : RunV P S ⟨d, .unOp .not t x, ty, pos, af, g⟩ ρ (.bool (!b)) := fun w _ => by
  simp [execOp, hx, Op.unary]
theorem run_bin' {op : BinOp} {t : TypeId} {x y : Operand} {a b v : Value} {t' : TypeId} (hx : ρ x = a) (hy : ρ y = b) (w : World) (hg : eqGuard op t x y a b = pure ())
    (h : (binOp op t a b).run P w = .ok v w) : (execOp ρ ⟨d, .binOp op t x y t', ty, pos, af, g⟩).run P w = .ok (.value v) w := by
  simp only [execOp, hx, hy, hg, Sem.run_bind, Sem.run_pure, Result.andThen_ok, h]
theorem r_beql {t t' : TypeId} {x y : Operand} {a b : Bool} (ht : P.underlying t = some .bool) (hx : ρ x = .bool a) (hy : ρ y = .bool b) :
    RunV P S ⟨d, .binOp .eql t x y t', ty, pos, af, g⟩ ρ (.bool (a == b)) := fun w _ => run_bin' hx hy w rfl (run_eql_bool w t a b ht)
theorem r_nil_eql {t t' e : TypeId} {x y : Operand} {a : Option Addr} {n c : Nat} (ht : P.underlying t = some (.slice e)) (hx : ρ x = .slice a n c) (hy : ρ y = .slice none 0 0) :
    RunV P S ⟨d, .binOp .eql t x y t', ty, pos, af, g⟩ ρ (.bool a.isNone) := fun w _ => run_bin' hx hy w rfl (Lib.run_eql_slice_nil w t e a n c 0 0 ht)
theorem r_nil_neq {t t' e : TypeId} {x y : Operand} {a : Option Addr} {n c : Nat} (ht : P.underlying t = some (.slice e)) (hx : ρ x = .slice a n c) (hy : ρ y = .slice none 0 0) :
    RunV P S ⟨d, .binOp .neq t x y t', ty, pos, af, g⟩ ρ (.bool a.isSome) := fun w _ => run_bin' hx hy w rfl (by
      have := run_neq_slice_nil_any (P := P) w t e a n c 0 0 ht
      rw [this]; cases a <;> rfl)
theorem r_len {t e : TypeId} {x : Operand} {a : Option Addr} {n c : Nat} (ht : P.underlying t = some (.slice e)) (hx : ρ x = .slice a n c) :
    RunV P S ⟨d, .call ⟨.builtin .len, #[x], #[t]⟩, ty, pos, af, g⟩ ρ (.int .i64 n) := fun w _ => by
  simp [execOp, resolve, invoke, builtin, Builtin.len_, underlying, program, Sem.run, ht, hx, goInt]
theorem r_max {x y : Operand} {ts : Array TypeId} {k : IntKind} {a b : Int} (hx : ρ x = .int k a) (hy : ρ y = .int k b) :
    RunV P S ⟨d, .call ⟨.builtin .max, #[x, y], ts⟩, ty, pos, af, g⟩ ρ (.int k (max a b)) := fun w _ => by
  simp [execOp, resolve, invoke, builtin, Builtin.max_, Builtin.max2, hx, hy]
  rw [Int.max_def]; split <;> split <;> omega
theorem r_makeFunc {fn : Fn} {cap : List Operand} {vs : List Value} (h : cap.map ρ = vs) : RunV P S ⟨d, .makeFunc fn #[] cap.toArray, ty, pos, af, g⟩ ρ (.func fn #[] vs.toArray) := fun w _ => by
  simp [execOp, Instr.makeFunc, h]
end
theorem add_none (b o i : Nat) : (⟨b, o, none⟩ : Addr).add i = ⟨b, o + i, none⟩ := by
  unfold Addr.add; split <;> simp_all
def CellsAt (w : World) (a : Addr) (cs : List Value) : Prop := ∀ i v, cs[i]? = some v → w.cell? (a.add i) = some v
theorem run_load_cell {P : Program} {w : World} {a : Addr} {v : Value} (h : w.cell? a = some v) : (load a).run P w = .ok v w := by
  rw [run_load, h]
theorem run_loadCellsFrom {P : Program} {w : World} {a : Addr} (l : List Value) : ∀ (i : Nat) (acc : Array Value), (∀ j v, l[j]? = some v → w.cell? (a.add (i + j)) = some v) →
    (loadCellsFrom a i l.length acc).run P w = .ok (acc ++ l.toArray) w := by
  induction l with
  | nil => intro i acc _; simp [loadCellsFrom]
  | cons x l ih =>
    intro i acc h
    have h0 := h 0 x rfl
    simp only [List.length_cons, loadCellsFrom, Sem.run_bind]
    rw [run_load_cell (by simpa using h0), Result.andThen_ok]
    have := ih (i + 1) (acc.push x) fun j v hj => by
      have := h (j + 1) v (by simpa using hj)
      rwa [show i + 1 + j = i + (j + 1) by omega]
    rw [this]
    simp
theorem run_loadCells {P : Program} {w : World} {a : Addr} {l : List Value} (h : CellsAt w a l) : (loadCells a l.length).run P w = .ok l.toArray w := by
  have := run_loadCellsFrom (P := P) (w := w) (a := a) l 0 #[] fun j v hj => by simpa using h j v hj
  simpa [loadCells] using this
theorem TyI.run_isAgg {P : Program} {t : TypeId} {agg : Bool} {s bytes : Nat} {z : List Value} (h : TyI P t agg s bytes z) (w : World) : (isAgg t).run P w = .ok agg w := by
  have hu := h.und
  cases hd : P.underlying t with
  | none => simp [hd] at hu
  | some u =>
    rw [hd] at hu
    cases u <;> simp [isAgg, run_underlying hd] <;> simp_all
theorem TyI.run_typeInfo {P : Program} {t : TypeId} {agg : Bool} {s bytes : Nat} {z : List Value} (h : TyI P t agg s bytes z) (w : World) :
    ∃ i, (typeInfo t).run P w = .ok i w ∧ i.zero = some (if agg then .agg z.toArray else z.headD undef) ∧ i.size = s ∧ i.bytes = bytes := by
  obtain ⟨i, h1, h2, h3, h4⟩ := h.info
  exact ⟨i, by simp [typeInfo, program, Sem.run, h1], h2, h3, h4⟩
theorem TyI.run_sizeOf {P : Program} {t : TypeId} {agg : Bool} {s bytes : Nat} {z : List Value} (h : TyI P t agg s bytes z) (w : World) : (sizeOf t).run P w = .ok s w := by
  obtain ⟨i, h1, h2, h3, h4⟩ := h.run_typeInfo w
  simp [sizeOf, h1, h3]
theorem TyI.run_zero {P : Program} {t : TypeId} {agg : Bool} {s bytes : Nat} {z : List Value} (h : TyI P t agg s bytes z) (w : World) : (zeroValue t).run P w = .ok (pack agg z) w := by
  obtain ⟨i, h1, h2, h3, h4⟩ := h.run_typeInfo w
  simp [zeroValue, h1, h2, pack]
theorem TyI.run_loadVar {P : Program} {t : TypeId} {agg : Bool} {s bytes : Nat} {z : List Value} (h : TyI P t agg s bytes z) {w : World} {a : Addr} {cs : List Value}
    (hc : CellsAt w a cs) (hl : cs.length = s) : (loadVar t a).run P w = .ok (pack agg cs) w := by
  cases agg with
  | true => subst hl; simp [loadVar, h.run_isAgg, h.run_sizeOf, run_loadCells hc, pack]
  | false =>
    obtain rfl := h.one rfl
    match cs, hl with
    | [c], _ =>
      have h0 := hc 0 c rfl
      simp only [loadVar, Sem.run_bind, h.run_isAgg, Result.andThen_ok, Bool.false_eq_true, if_false]
      rw [run_load_cell (by simpa [Addr.add] using h0)]
      rfl
def FldI (P : Program) (t : TypeId) (i off : Nat) : Prop :=
  ∃ fs f j, P.underlying t = some (.struct fs) ∧ fs[i]? = some f ∧ f.offset = off ∧ P.info? f.type = some j ∧ j.size ≠ 0
def Imm (m : Mem) (b o : Nat) (cs : List Value) : Prop :=
  ∃ arr e fr, m.blk b = some (.cells arr e fr) ∧ ∀ i v, cs[i]? = some v → arr[o + i]? = some v
theorem Imm.mono {m m' : Mem} {b o : Nat} {cs : List Value} (h : Imm m b o cs) (hm : m ≤ m') : Imm m' b o cs := by
  obtain ⟨arr, e, fr, h1, h2⟩ := h
  exact ⟨arr, e, fr, hm.blk _ _ h1, h2⟩
theorem Imm.at {m : Mem} {b o : Nat} {cs : List Value} (h : Imm m b o cs) {w : World} {L : List Atom} (hH : Held w m L) : CellsAt w ⟨b, o, none⟩ cs := by
  obtain ⟨arr, e, fr, h1, h2⟩ := h
  intro i v hv
  rw [add_none]
  simp only [World.cell?, hH.imm _ _ h1]
  simpa using h2 i v hv
theorem box_at {w : World} {b : Nat} {t : TypeId} {cs : List Value} (h : Atom.ok w (.box b t cs)) : CellsAt w ⟨b, 0, none⟩ cs := by
  intro i v hv
  rw [add_none]
  simp only [World.cell?, show w.heap[b]? = _ from h]
  simpa using hv
theorem CellsAt.part {w : World} {b o : Nat} {cs : List Value} (h : CellsAt w ⟨b, o, none⟩ cs) (k s : Nat) : CellsAt w ⟨b, o + k, none⟩ ((cs.drop k).take s) := by
  intro i v hv
  rw [add_none]
  have := h (k + i) v (by
    rw [List.getElem?_take] at hv
    split at hv
    · rwa [List.getElem?_drop] at hv
    · cases hv)
  rwa [add_none, ← Nat.add_assoc] at this
def sub (agg : Bool) (k s : Nat) (cs : List Value) : Value := pack agg ((cs.drop k).take s)
section
variable {P : Program} {S : World → Prop} {ρ : Operand → Value} {d : Option Nat} {ty : TypeId} {pos : String} {af : Array Edge} {g : Option (Nat × Bool)}
theorem r_load {t : TypeId} {x : Operand} {agg : Bool} {s bytes : Nat} {z : List Value} (ht : TyI P t agg s bytes z) {b o k : Nat} {cs : List Value} (hx : ρ x = .pointer (some ⟨b, o + k, none⟩))
    (hc : ∀ w, S w → CellsAt w ⟨b, o, none⟩ cs) (hl : k + s ≤ cs.length) {v : Value} (hv : sub agg k s cs = v) : RunV P S ⟨d, .load t x, ty, pos, af, g⟩ ρ v := fun w hS => by
  have hp := (hc w hS).part k s
  have := ht.run_loadVar hp (by simp; omega)
  simp only [execOp, hx, Instr.loadAt, Instr.sureAddr, Sem.run_bind, pure_bind, this, Result.andThen_ok]
  rw [← hv]; rfl
theorem r_fieldAddr {t : TypeId} {x : Operand} {i off b o : Nat} (hf : FldI P t i off) (hx : ρ x = .pointer (some ⟨b, o, none⟩)) :
    RunV P S ⟨d, .fieldAddr t x i, ty, pos, af, g⟩ ρ (.pointer (some ⟨b, o + off, none⟩)) := fun w _ => by
  obtain ⟨fs, f, j, h1, h2, rfl, h4, h5⟩ := hf
  have h6 : (sizeOf f.type).run P w = .ok j.size w := by simp [sizeOf, typeInfo, program, Sem.run, h4]
  simp [execOp, hx, Instr.fieldAt, Instr.sureAddr, run_underlying h1, h2, fieldPlace, h6, h5, add_none]
theorem r_indexAddr {t e : TypeId} {x ix : Operand} {agg : Bool} {s bytes : Nat} {z : List Value} (hu : P.underlying t = some (.slice e)) (ht : TyI P e agg s bytes z) {b o n c : Nat} {i : Int}
    (hx : ρ x = .slice (some ⟨b, o, none⟩) n c) (hi : ρ ix = .int .i64 i) (h0 : 0 ≤ i) (h1 : i < n) :
    RunV P S ⟨d, .indexAddr t x ix, ty, pos, af, g⟩ ρ (.pointer (some ⟨b, o + i.toNat * s, none⟩)) := fun w _ => by
  simp [execOp, hx, hi, Instr.indexAt, asIntOf, run_underlying hu, h0, h1, ht.run_sizeOf, add_none]
theorem r_indexAddr_arr {t e : TypeId} {x ix : Operand} {agg : Bool} {s bytes n : Nat} {z : List Value} (hu : P.underlying t = some (.array n e)) (ht : TyI P e agg s bytes z) {b o : Nat} {i : Int}
    (hx : ρ x = .pointer (some ⟨b, o, none⟩)) (hi : ρ ix = .int .i64 i) (h0 : 0 ≤ i) (h1 : i < n) :
    RunV P S ⟨d, .indexAddr t x ix, ty, pos, af, g⟩ ρ (.pointer (some ⟨b, o + i.toNat * s, none⟩)) := fun w _ => by
  simp [execOp, hx, hi, Instr.indexAt, Instr.sureAddr, asIntOf, run_underlying hu, h0, h1, ht.run_sizeOf, add_none]
end
def RSl {α : Type} (s : Nat) (R : Mem → List Value → α → Prop) (m : Mem) (a : Option Addr) (n c : Nat) (xs : List α) : Prop :=
  xs.length = n ∧ n ≤ 9223372036854775807 ∧ n ≤ c ∧ (0 < n → ∃ b o, a = some ⟨b, o, none⟩ ∧ ∀ i x, xs[i]? = some x → ∃ cs, cs.length = s ∧ Imm m b (o + i * s) cs ∧ R m cs x)
def Mono {α : Type} (R : Mem → List Value → α → Prop) : Prop := ∀ (m m' : Mem) (cs : List Value) (x : α), R m cs x → m ≤ m' → R m' cs x
theorem RSl.mono {α : Type} {s : Nat} {R : Mem → List Value → α → Prop} (hR : Mono R) {m m' : Mem} {a : Option Addr} {n c : Nat} {xs : List α} (h : RSl s R m a n c xs) (hm : m ≤ m') : RSl s R m' a n c xs := by
  refine ⟨h.1, h.2.1, h.2.2.1, fun hn => ?_⟩
  obtain ⟨b, o, e, hh⟩ := h.2.2.2 hn
  refine ⟨b, o, e, fun i x hx => ?_⟩
  obtain ⟨cs, h1, h2, h3⟩ := hh i x hx
  exact ⟨cs, h1, h2.mono hm, hR _ _ _ _ h3 hm⟩
def RInt (_ : Mem) (cs : List Value) (x : Int) : Prop := cs = [.int .i64 x]
def RBool (_ : Mem) (cs : List Value) (x : Bool) : Prop := cs = [.bool x]
theorem RInt.mono : Mono RInt := fun _ _ _ _ h _ => h
theorem RBool.mono : Mono RBool := fun _ _ _ _ h _ => h
def RS {α : Type} (s : Nat) (R : Mem → List Value → α → Prop) (m : Mem) (cs : List Value) (xs : List α) : Prop :=
  ∃ a n c, cs = [.slice a n c] ∧ RSl s R m a n c xs
theorem RS.mono {α : Type} {s : Nat} {R : Mem → List Value → α → Prop} (hR : Mono R) : Mono (RS s R) := fun _ _ _ _ ⟨a, n, c, h, h'⟩ hm => ⟨a, n, c, h, h'.mono hR hm⟩
end Go.K
