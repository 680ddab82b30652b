/- Slices that may be nil; arrays; conversions of integers; no program is named here. -/
import Derived.Test.YtdhhimfcjoclfaaKM
set_option linter.unusedVariables false
set_option linter.unusedSimpArgs false
namespace Go.K
open Go
def ROp {α : Type} (s : Nat) (R : Mem → List Value → α → Prop) (m : Mem) (a : Option Addr) (n c : Nat) (o : Option (List α)) : Prop :=
  RSl s R m a n c (o.getD []) ∧ a.isNone = o.isNone
def RIntK (k : IntKind) (_ : Mem) (cs : List Value) (x : Int) : Prop := cs = [.int k x]
theorem RIntK.mono {k : IntKind} : Mono (RIntK k) := fun _ _ _ _ h _ => h
section
variable {α : Type} {s : Nat} {R : Mem → List Value → α → Prop} {m : Mem} {a : Option Addr} {n c : Nat} {o : Option (List α)}
theorem ROp.rsl (h : ROp s R m a n c o) : RSl s R m a n c (o.getD []) := h.1
theorem ROp.isNone (h : ROp s R m a n c o) : a.isNone = o.isNone := h.2
theorem ROp.isSome (h : ROp s R m a n c o) : a.isSome = o.isSome := by have := h.2; cases a <;> cases o <;> simp_all
theorem ROp.nil : ROp s R m none 0 c (none : Option (List α)) := ⟨RSl.nil, rfl⟩
theorem ROp.some {xs : List α} (h : RSl s R m a n c xs) (hn : nonempty xs = true) : ROp s R m a n c (some xs) := by
  obtain ⟨x, hx⟩ := nonempty_get hn
  obtain ⟨b, o, rfl⟩ := RSl.elem_a h hx
  exact ⟨h, rfl⟩
theorem ROp.mono (hR : Mono R) (h : ROp s R m a n c o) {m' : Mem} (hm : m ≤ m') : ROp s R m' a n c o := ⟨RSl.mono hR h.1 hm, h.2⟩
end
section
variable {P : Program} {S : World → Prop} {ρ : Operand → Value} {d : Option Nat} {ty : TypeId} {pos : String} {af : Array Edge} {g : Option (Nat × Bool)}
theorem r_nil_eqlO {t t' e : TypeId} {x y : Operand} {a : Option Addr} {n c : Nat} {b : Bool} (ht : P.underlying t = some (.slice e)) (hx : ρ x = .slice a n c) (hy : ρ y = .slice none 0 0) (hb : a.isNone = b) :
    RunV P S ⟨d, .binOp .eql t x y t', ty, pos, af, g⟩ ρ (.bool b) := by subst hb; exact r_nil_eql ht hx hy
theorem r_nil_neqO {t t' e : TypeId} {x y : Operand} {a : Option Addr} {n c : Nat} {b : Bool} (ht : P.underlying t = some (.slice e)) (hx : ρ x = .slice a n c) (hy : ρ y = .slice none 0 0) (hb : a.isSome = b) :
    RunV P S ⟨d, .binOp .neq t x y t', ty, pos, af, g⟩ ρ (.bool b) := by subst hb; exact r_nil_neq ht hx hy
theorem r_nilCheck {x : Operand} {b o : Nat} (hx : ρ x = .pointer (some ⟨b, o, none⟩)) : RunV P S ⟨d, .nilCheck x, ty, pos, af, g⟩ ρ (.pointer (some ⟨b, o, none⟩)) := fun w _ => by
  simp [execOp, hx]
theorem r_conv {src dst : TypeId} {k j : IntKind} {x : Operand} {a : Int} (hs : P.underlying src = some (.int k)) (hd : P.underlying dst = some (.int j)) (hx : ρ x = .int k a) :
    RunV P S ⟨d, .convert src dst x, ty, pos, af, g⟩ ρ (.int j (j.wrap a)) := fun w _ => by
  have hk : P.intKind dst = j := by simp [Program.intKind, hd]
  have h := run_convert_int (P := P) w src dst k a (by simp [hs]) (by rw [hk]; exact hd)
  rw [hk] at h
  simp only [execOp, hx, Sem.run_bind, h, Result.andThen_ok, Sem.run_pure]
theorem r_conv64 {src dst : TypeId} {k : IntKind} {x : Operand} {a : Int} (hs : P.underlying src = some (.int k)) (hd : P.underlying dst = some (.int .i64)) (hx : ρ x = .int k a) (ho : ok64 a = true) :
    RunV P S ⟨d, .convert src dst x, ty, pos, af, g⟩ ρ (.int .i64 a) := by
  have h := r_conv (P := P) (S := S) (d := d) (ty := ty) (pos := pos) (af := af) (g := g) hs hd hx
  rwa [wrap_i64 (ok_lo ho) (ok_hi ho)] at h
theorem r_buildA {t e : TypeId} {n s bytes s' bytes' : Nat} {agg : Bool} {z z' : List Value} (hu : P.underlying t = some (.array n e)) (ht : TyI P t true s bytes z) (he : TyI P e agg s' bytes' z')
    {parts : List (Nat × Operand)} {ps : List (Nat × List Value)} (h : parts.map (fun p => (p.1, (ρ p.2).cells.toList)) = ps) (hok : okP ((List.range n).map fun i => (i * s', s')) z.length ps = true) {cs : List Value} (hc : fillP ((List.range n).map fun i => (i * s', s')) z ps = cs) :
    RunV P S ⟨d, .build t parts.toArray, ty, pos, af, g⟩ ρ (.agg cs.toArray) := fun w _ => by
  subst hc h
  have hcomp : (parts.map fun p => (p.1, ρ p.2)).map (fun p => (p.1, p.2.cells.toList)) = parts.map fun p => (p.1, (ρ p.2).cells.toList) := by simp
  have hf := fill_ok (fun i => some (i * s', s')) ((List.range n).map fun i => (i * s', s')) (fun i hi => by simp at hi; simp [List.getElem?_range, hi]) (parts.map fun p => (p.1, ρ p.2)) z (by rw [hcomp]; exact hok)
  rw [hcomp] at hf
  simp only [execOp, Instr.build, Sem.run_bind, ht.run_zero, Result.andThen_ok, run_underlying hu, he.run_sizeOf, pack, if_true, Value.cells, List.map_toArray, hf, Sem.run_pure]
theorem run_partI {e : TypeId} {agg : Bool} {s bytes : Nat} {z cs : List Value} {k : Nat} (he : TyI P e agg s bytes z) (hk : k + s ≤ cs.length) (w : World) : (part e cs.toArray k).run P w = .ok (sub agg k s cs) w := by
  cases agg with
  | true =>
    simp only [part, Sem.run_bind, he.run_isAgg, Result.andThen_ok, if_true, he.run_sizeOf, sub, pack]
    have : (cs.toArray.extract k (k + s)) = ((cs.drop k).take s).toArray := by
      apply Array.toList_inj.1; simp [List.extract_eq_take_drop]
    rw [← this]
    first
    | (rw [if_pos (by simpa using hk)]; rfl)
    | (rw [if_neg (by simp; omega)]; rfl)
    | (split <;> first | rfl | (simp at *; omega))
    | simp_all
  | false =>
    have h1 := he.one rfl
    subst h1
    simp only [part, Sem.run_bind, he.run_isAgg, Result.andThen_ok, Bool.false_eq_true, if_false, sub, pack]
    have hg : cs.toArray[k]? = some cs[k] := by simp [List.getElem?_eq_getElem (show k < cs.length by omega)]
    have hh : (List.take 1 (List.drop k cs)).headD undef = cs[k] := by
      rw [List.headD_eq_head?_getD, List.head?_take, if_neg (by omega), List.head?_drop, List.getElem?_eq_getElem (by omega)]; rfl
    rw [hg, hh]
    rfl
theorem get2 {x : List Int} {y z : Int} (h : x[(0 : Int).toNat]? = some y) (h' : x[(1 : Int).toNat]? = some z) (hl : x.length = 2) : x = [y, z] := by
  match x, hl with
  | [a, b], _ => simp at h h'; rw [h, h']
theorem flat_at {s : Nat} {xss : List (List Int)} : (∀ x ∈ xss, x.length = s) → ∀ {i : Nat} {x : List Int}, xss[i]? = some x → ((xss.flatten.drop (i * s)).take s) = x ∧ i * s + s ≤ xss.flatten.length := by
  induction xss with
  | nil => intro _ i x h; simp at h
  | cons y xss ih =>
    intro hl i x h
    have hy := hl y (by simp)
    cases i with
    | zero => simp at h; subst h; simp [← hy]
    | succ i =>
      obtain ⟨h1, h2⟩ := ih (fun x hx => hl x (by simp [hx])) (by simpa using h)
      refine ⟨?_, by simp only [List.flatten_cons, List.length_append, Nat.succ_mul]; omega⟩
      rw [List.flatten_cons, Nat.succ_mul, Nat.add_comm, ← List.drop_drop, List.drop_left' hy]
      exact h1
theorem r_indexAI {t e : TypeId} {n s bytes : Nat} {agg : Bool} {z : List Value} {x ix : Operand} {xss : List (List Int)} {i : Int} {v : Value} (hu : P.underlying t = some (.array n e)) (he : TyI P e agg s bytes z)
    {cs : List Value} (hx : ρ x = .agg cs.toArray) (hi : ρ ix = .int .i64 i) (h0 : 0 ≤ i) (h1 : i < xss.length) (hn : Nat.beq xss.length n = true) {y : List Int} (hy : xss[i.toNat]? = some y) (hls : (xss.all fun x => Nat.beq x.length s) = true) (hcs : cs = nums xss.flatten)
    {ys : List Int} (hys : y.length = s → y = ys) (hv : pack agg (nums ys) = v) : RunV P S ⟨d, .index t x ix, ty, pos, af, g⟩ ρ v := fun w _ => by
  subst hv hcs
  have hn := Nat.eq_of_beq_eq_true hn
  have hall : ∀ x ∈ xss, x.length = s := fun x hx => Nat.eq_of_beq_eq_true (List.all_eq_true.1 hls x hx)
  obtain ⟨h2, h3⟩ := flat_at hall hy
  have hyl := hall y (List.mem_of_getElem? hy)
  obtain rfl := hys hyl
  have hp := run_partI he (cs := nums xss.flatten) (k := i.toNat * s) (by rw [nums_length]; exact h3) w
  have hsub : sub agg (i.toNat * s) s (nums xss.flatten) = pack agg (nums y) := by
    unfold sub; congr 1; rw [← h2]; simp [nums]
  rw [hsub] at hp
  simp [execOp, hx, hi, Instr.index, asIntOf, run_underlying hu, h0, show i < n by omega, he.run_sizeOf, hp]
end
end Go.K
