/- Structs of numbers and truths that are compared; no program is named here. -/
import Derived.Test.YtdhhimfcjoclfaaGreatKI
import Derived.Laws.StructEq
import Derived.ChangeKeysEq
set_option linter.unusedVariables false
set_option linter.unusedSimpArgs false
namespace Go.K
open Go
def flatOk (P : Program) : Nat → List Field → List Bool → Bool
  | _, [], [] => true
  | o, f :: fs, k :: ks => (f.name != "_") && ((f.offset == o) && (P.plainKey f.type && ((match P.underlying f.type with | some (.int .i64) => k | some .bool => !k | _ => false) && flatOk P (o + 1) fs ks)))
  | _, _, _ => false
def flatB (P : Program) (t : TypeId) (ks : List Bool) : Bool :=
  (match P.underlying t with | some (.struct fs) => flatOk P 0 fs.toList ks | _ => false) && (!P.stoodInHeld t && !P.eqGuardType P.depth t)
inductive EqC : List Bool → List Value → List Value → Bool → Prop
  | nil : EqC [] [] [] true
  | int {ks xs ys b} (a c : Int) (h : EqC ks xs ys b) : EqC (true :: ks) (.int .i64 a :: xs) (.int .i64 c :: ys) (decide (a = c) && b)
  | bool {ks xs ys b} (a c : Bool) (h : EqC ks xs ys b) : EqC (false :: ks) (.bool a :: xs) (.bool c :: ys) ((a == c) && b)
theorem eqFields_run {P : Program} {d : Nat} {w : World} : ∀ {ks : List Bool} {fs : List Field} {o : Nat} {XS YS xs ys : List Value} {b : Bool}, flatOk P o fs ks = true → EqC ks xs ys b → XS.drop o = xs → YS.drop o = ys →
    (Op.eqFields (d + 1) XS.toArray YS.toArray fs).run P w = .ok b w := by
  intro ks
  induction ks with
  | nil =>
    intro fs o XS YS xs ys b hf he hx hy
    cases fs with
    | nil => cases he; simp [Op.eqFields]
    | cons f fs => simp [flatOk] at hf
  | cons k ks ih =>
    intro fs o XS YS xs ys b hf he hx hy
    cases fs with
    | nil => simp [flatOk] at hf
    | cons f fs =>
      simp only [flatOk, Bool.and_eq_true, bne_iff_ne, ne_eq, beq_iff_eq] at hf
      obtain ⟨h1, h2, h3, h4, h5⟩ := hf
      have hget : ∀ {Z zs : List Value} {z : Value}, Z.drop o = z :: zs → (part f.type Z.toArray f.offset).run P w = .ok z w ∧ Z.drop (o + 1) = zs := by
        intro Z zs z hz
        refine ⟨run_part_plain w h3 (by rw [h2]; have := congrArg (·[0]?) hz; simpa [List.getElem?_drop] using this), ?_⟩
        rw [← List.drop_drop, hz]; rfl
      cases he with
      | int a c he =>
        obtain ⟨p1, q1⟩ := hget hx
        obtain ⟨p2, q2⟩ := hget hy
        have hu : P.underlying f.type = some (.int .i64) := by
          revert h4; split <;> simp_all
        rw [Op.eqFields]
        simp only [ne_eq, h1, not_false_eq_true, if_true, Sem.run_bind, p1, p2, Result.andThen_ok, run_equalIn_int w d f.type .i64 .i64 a c hu]
        by_cases hac : a = c
        · simp [hac, ih h5 he q1 q2]
        · simp [hac]
      | bool a c he =>
        obtain ⟨p1, q1⟩ := hget hx
        obtain ⟨p2, q2⟩ := hget hy
        have hu : P.underlying f.type = some .bool := by
          revert h4; split <;> simp_all
        rw [Op.eqFields]
        simp only [ne_eq, h1, not_false_eq_true, if_true, Sem.run_bind, p1, p2, Result.andThen_ok, run_equalIn_bool' w d f.type a c hu]
        cases a <;> cases c <;> simp [ih h5 he q1 q2]
theorem equalIn_flat {P : Program} {t : TypeId} {ks : List Bool} (h : flatB P t ks = true) {xs ys : List Value} {b : Bool} (he : EqC ks xs ys b) (w : World) : (Op.equalIn 10000 t (.agg xs.toArray) (.agg ys.toArray)).run P w = .ok b w := by
  simp only [flatB, Bool.and_eq_true, Bool.not_eq_true'] at h
  obtain ⟨h1, h2, h3⟩ := h
  revert h1
  split
  · rename_i fs hu
    intro h1
    have hf : P.fieldsOf t = fs := by simp [Program.fieldsOf, hu]
    rw [run_equalIn_struct (P := P) w 9999 t _ _ (by rw [hf]; exact hu) h2, hf]
    exact eqFields_run (d := 9998) h1 he rfl rfl
  · intro h1; cases h1
section
variable {P : Program} {S : World → Prop} {ρ : Operand → Value} {d : Option Nat} {ty : TypeId} {pos : String} {af : Array Edge} {g : Option (Nat × Bool)}
theorem r_sneq {t t' : TypeId} {x y : Operand} {ks : List Bool} (h : flatB P t ks = true) {xs ys : List Value} {b : Bool} (hx : ρ x = .agg xs.toArray) (hy : ρ y = .agg ys.toArray) (he : EqC ks xs ys b) :
    RunV P S ⟨d, .binOp .neq t x y t', ty, pos, af, g⟩ ρ (.bool (!b)) := fun w _ => by
  have h3 : P.eqGuardType P.depth t = false := by simp only [flatB, Bool.and_eq_true, Bool.not_eq_true'] at h; exact h.2.2
  simp only [execOp, hx, hy, Sem.run_bind, run_eqGuard_agg w .neq t x y _ _ h3, run_neq_struct, equalIn_flat h he, Result.andThen_ok, Sem.run_pure]
end
end Go.K
