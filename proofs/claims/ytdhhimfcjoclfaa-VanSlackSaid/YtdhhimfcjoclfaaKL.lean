/- Scopes with labels that no jump goes to; no program is named here. -/
import Derived.Test.YtdhhimfcjoclfaaKJ
set_option linter.unusedVariables false
set_option linter.unusedSimpArgs false
namespace Go.K
open Go
def scopeQ (N : NF → Fr → World → Prop) (Q : FPost) : FPost := fun e n f w =>
  match e with
  | .normal => N n f w
  | .goto _ => False
  | e => Q e n f w
section
variable {P : Program} {r : Option Nat} {n : NF} {Q : FPost} {cs : List Code} {f : Fr} {w : World} {b : Frame} {a : Act} {k : List Item} {fs : List Frame}
theorem stepR_scope {c : Code} : step P (lone (b.atR a (.code (.scope c) :: k)) fs w) = .next (lone (b.atR a (.code c :: .inScope c :: k)) fs w) :=
  step_lone_go (by simp [stepG, stepG.exec, Frame.atR])
theorem stepR_inScope {c : Code} : step P (lone (b.atR a (.inScope c :: k)) fs w) = .next (lone (b.atR a k) fs w) :=
  step_lone_go (by simp [stepG, stepG.exec, Frame.atR])
theorem c_label {l : Nat} (h : wpc P r n Q cs f w) : wpc P r n Q (.label l :: cs) f w := by
  simp only [wpc, wpl] at *
  exact wpIn_label ⟨n, f, rfl, h⟩
theorem q_scoper {N : NF → Fr → World → Prop} (h : Q .ret n f w) : scopeQ N Q .ret n f w := h
theorem c_scope {c : Code} (h : wpc P r n (scopeQ (fun n f w => wpc P r n Q cs f w) Q) [c] f w) : wpc P r n Q (.scope c :: cs) f w := by
  simp only [wpc, wpl] at *
  intro b kk cs' hro hb hr
  obtain ⟨e, a₁, w₁, ⟨n', g, rfl, hq⟩, harr⟩ := h b (.inScope c :: kk) cs' hro hb hr
  have h0 : StepsIn (Machine.fenced P (FF r)) P (lone (b.atR (act n f) (.code (.scope c) :: kk)) cs' w) (lone (b.atR (act n f) (.code c :: .inScope c :: kk)) cs' w) := .one (fenced_calm hb hr rfl) stepR_scope
  cases e with
  | normal => exact ⟨.normal, _, w₁, ⟨n', g, rfl, hq⟩, h0.trans (StepsIn.trans harr (.one (fenced_calm hb hr rfl) stepR_inScope))⟩
  | exit id =>
    refine ⟨.exit id, _, w₁, ⟨n', g, rfl, hq⟩, fun k' hk => h0.trans (harr.1 k' (by simp [exitTo, hk])), fun hro' hk => ?_⟩
    obtain ⟨k1, hk1, hs⟩ := harr.2 hro' (by simpa [exitTo] using hk)
    exact ⟨k1, hk1, h0.trans hs⟩
  | goto l => exact hq.elim
  | ret => exact ⟨.ret, act n' g, w₁, ⟨n', g, rfl, hq⟩, .of_steps h0 (show ArrivesIn _ P _ b kk cs' .ret _ _ from harr)⟩
  | panic ch => exact ⟨(.panic ch), act n' g, w₁, ⟨n', g, rfl, hq⟩, .of_steps h0 (show ArrivesIn _ P _ b kk cs' (.panic ch) _ _ from harr)⟩
  | outgrown => exact ⟨.outgrown, act n' g, w₁, ⟨n', g, rfl, hq⟩, .of_steps h0 (show ArrivesIn _ P _ b kk cs' .outgrown _ _ from harr)⟩
end
end Go.K
