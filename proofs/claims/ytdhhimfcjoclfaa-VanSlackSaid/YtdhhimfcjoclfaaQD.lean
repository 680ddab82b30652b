/- Plain law of VanTours, part 3: drives and slack. -/
import Derived.Test.YtdhhimfcjoclfaaQC
set_option linter.unusedVariables false
set_option linter.unusedSimpArgs false
namespace Go.Proofs.Ytdhhimfcjoclfaa
open Go Go.K Go.V

def go (f : Fleet) : List Int → Int → Int → List Int → List Int × Int × Bool
  | [], a, p, l => (l, a + M f p 0, decide (a + M f p 0 ≤ f.back))
  | s :: t, a, p, l => bif decide ((S f s).close < a + M f p (s + 1)) then ([], 0, false) else go f t (max (a + M f p (s + 1)) (S f s).opn + (S f s).serve) (s + 1) (l ++ [a + M f p (s + 1)])
def At (f : Fleet) (p : Int) : Prop := 0 ≤ p ∧ p ≤ f.stops.length
theorem e108 {fuel : Nat} {f : Fleet} (v : Val f) {p a s : Int} (hp : At f p) (h5 : 0 ≤ s ∧ s < f.stops.length) (h0 : 0 ≤ a) (h1 : a ≤ 1000000000) :
    mg51 fuel f p a s = some (a + M f p (s + 1), max (a + M f p (s + 1)) (S f s).opn + (S f s).serve, decide (a + M f p (s + 1) ≤ (S f s).close)) := by
  have h6 := v.S_b h5.1 h5.2
  have hM := v.M_b hp.1 hp.2 (show 0 ≤ s + 1 by omega) (by omega)
  have hlen := v.len
  have v8 := v.n8
  rw [mg51, gS h5.1 h5.2, gR hp.1 (by have := hp.2; omega), chk_64 (by omega) (by omega), gM v hp.1 hp.2 (by omega) (by omega), chk_64 (by omega) (by omega), chk_64 (by omega) (by omega)]
theorem e66l {fuel : Nat} {f : Fleet} (v : Val f) {st : List Int} (hi : In f st) (hs : st.length ≤ 1000) {leave : Int} {r : List Int} (t : List Int) : ∀ (n k : Nat) (a p : Int) (l : List Int), st.drop n = t → t.length < k → At f p → 0 ≤ a → a + 3000 * (t.length + 1) ≤ 1000000000 → l.length + t.length ≤ 1000 →
    ∃ u, mg23_l0 fuel f st leave r k p a n l = some (u, (go f t a p l).1, (go f t a p l).2.2) ∧ ((go f t a p l).2.2 = true → u = ⟨r, leave, (go f t a p l).2.1⟩) := by
  induction t with
  | nil =>
    intro n k a p l hd hk hp h0 h1 hl
    match k, hk with
    | k + 1, _ =>
      have hM := v.M_b hp.1 hp.2 (Int.le_refl 0) (by omega)
      have hlen := v.len
      simp only [List.length_nil] at h1
      rw [mg23_l0, dec_n hd, cond_false, gR hp.1 (by have := hp.2; omega), gM v hp.1 hp.2 (Int.le_refl 0) (by omega), chk_64 (by omega) (by omega), go]
      exact ⟨_, rfl, fun _ => rfl⟩
  | cons s t ih =>
    intro n k a p l hd hk hp h0 h1 hl
    match k, hk with
    | k + 1, hk =>
      have ⟨h2, h3, h4⟩ := drop_c hd
      have h5 := hi s (List.mem_of_getElem? h3)
      have h6 := v.S_b h5.1 h5.2
      have hM := v.M_b hp.1 hp.2 (show 0 ≤ s + 1 by omega) (by omega)
      have hlen := v.len
      have v8 := v.n8
      have hk' : t.length < k := Nat.lt_of_succ_lt_succ hk
      have hn : n ≤ 1000000000 := by omega
      simp only [List.length_cons] at h1 hl
      have hp' : At f (s + 1) := ⟨by omega, by omega⟩
      rw [mg23_l0, dec_c hd, cond_true, get_c hd, e108 v hp h5 h0 (by omega), bnd_s, go]
      by_cases hc : (S f s).close < a + M f p (s + 1)
      · rw [decide_eq_true hc, decide_eq_false (by omega), Bool.not_false, cond_true, cond_true]
        exact ⟨_, rfl, fun h => by cases h⟩
      · rw [decide_eq_false hc, decide_eq_true (by omega), Bool.not_true, cond_false, cond_false, chk_lim (by omega), chk_64 (by omega) (by omega), chk_next hn]
        exact ih (n + 1) k (max (a + M f p (s + 1)) (S f s).opn + (S f s).serve) (s + 1) (l ++ [a + M f p (s + 1)]) h4 hk' hp' (by omega) (by omega) (by simp; omega)
theorem e66 {fuel : Nat} {f : Fleet} (v : Val f) {st : List Int} (hi : In f st) (hs : st.length ≤ 1000) (hf : st.length < fuel) {a : Int} (h0 : 0 ≤ a) (h1 : a ≤ 100000) :
    ∃ u, mg23 fuel f st a = some (u, (go f st a 0 []).1, (go f st a 0 []).2.2) ∧ ((go f st a 0 []).2.2 = true → u = ⟨st, a, (go f st a 0 []).2.1⟩) := by
  rw [mg23, mg20, chk_lim (by omega), bnd_s, List.nil_append]
  exact e66l v hi hs st 0 fuel a 0 [] rfl hf ⟨by omega, by omega⟩ h0 (by omega) (by simpa using hs)
def driveF (f : Fleet) (st : List Int) : Tour × List Int × Int :=
  bif decide (askF f st ≠ 0) then (⟨[], 0, 0⟩, [], askF f st) else bif (go f st (leaveF f f.start st) 0 []).2.2 then (⟨st, leaveF f f.start st, (go f st (leaveF f f.start st) 0 []).2.1⟩, (go f st (leaveF f f.start st) 0 []).1, 0) else (⟨[], 0, 0⟩, [], 12)
theorem ask_0 {f : Fleet} {st : List Int} (h : askF f st = 0) : Val f ∧ Good f st ∧ st ≠ [] ∧ loadF f st ≤ f.cap := by
  unfold askF at h
  by_cases h1 : chkF f = 0
  · rw [decide_eq_false (by simpa using h1), cond_false] at h
    by_cases h2 : st.length = 0
    · rw [decide_eq_true h2] at h; cases h
    · rw [decide_eq_false h2, cond_false] at h
      by_cases h3 : Good f st
      · rw [decide_eq_true h3, cond_true] at h
        by_cases h4 : f.cap < loadF f st
        · rw [decide_eq_true h4] at h; cases h
        · exact ⟨val_of h1, h3, fun he => h2 (by rw [he]; rfl), by omega⟩
      · rw [decide_eq_false h3] at h; cases h
  · rw [decide_eq_true h1] at h; exact absurd h h1
theorem e20 {fuel : Nat} {f : Fleet} (h : Fit f) (hf : 20 < fuel) {st : List Int} (hs : st.length ≤ 1000) (hf' : st.length < fuel) : mg10 fuel f st = some (driveF f st) := by
  rw [mg10, e65 h hf hs hf', bnd_s, driveF]
  by_cases ha : askF f st = 0
  · have ⟨v, hg, hne, hc⟩ := ask_0 ha
    have hb := leaveF_b v st f.start hg.1
    have := v.start
    have ⟨u, e1, e2⟩ := e66 (fuel := fuel) v hg.1 hs hf' (a := leaveF f f.start st) (by omega) (by omega)
    rw [decide_eq_false (by simpa using ha), cond_false, cond_false, e67 v hg.1 hs hf', bnd_s, e1, bnd_s]
    cases ho : (go f st (leaveF f f.start st) 0 []).2.2 with
    | true => rw [e2 ho]; rfl
    | false => rfl
  · rw [decide_eq_true ha, cond_true, cond_true]
/-! ### Slack -/
theorem go_mono {f : Fleet} (v : Val f) : ∀ (t : List Int) (a b p : Int) (l l' : List Int), In f t → At f p → a ≤ b → (go f t b p l').2.2 = true → (go f t a p l).2.2 = true ∧ b ≤ f.back
  | [], a, b, p, l, l', hi, hp, hab, h => by
    have hM := v.M_b hp.1 hp.2 (Int.le_refl 0) (by omega)
    simp only [go, decide_eq_true_eq] at h ⊢
    omega
  | s :: t, a, b, p, l, l', hi, hp, hab, h => by
    have h5 := hi s (.head _)
    have h6 := v.S_b h5.1 h5.2
    have hM := v.M_b hp.1 hp.2 (show 0 ≤ s + 1 by omega) (by omega)
    rw [go] at h ⊢
    by_cases hc : (S f s).close < b + M f p (s + 1)
    · rw [decide_eq_true hc, cond_true] at h; cases h
    · rw [decide_eq_false hc, cond_false] at h
      rw [decide_eq_false (by omega), cond_false]
      have := go_mono v t (max (a + M f p (s + 1)) (S f s).opn + (S f s).serve) (max (b + M f p (s + 1)) (S f s).opn + (S f s).serve) (s + 1) (l ++ [a + M f p (s + 1)]) _ (fun x hx => hi x (.tail _ hx)) ⟨by omega, by omega⟩ (by omega) h
      exact ⟨this.1, by omega⟩
def okAt (f : Fleet) (st : List Int) (x : Int) : Bool := (go f st x 0 []).2.2
theorem last_of {P : Nat → Prop} [DecidablePred P] : ∀ m : Nat, P 0 → ¬ P m → ∃ n, n < m ∧ P n ∧ ¬ P (n + 1)
  | 0, h0, h => absurd h0 h
  | m + 1, h0, h => by
    by_cases hm : P m
    · exact ⟨m, by omega, hm, h⟩
    · have ⟨n, h1, h2⟩ := last_of m h0 hm
      exact ⟨n, by omega, h2⟩
theorem slack_at {f : Fleet} (v : Val f) {st : List Int} (hi : In f st) {x : Int} (h0 : 0 ≤ x) (h : okAt f st x = true) : ∃ n : Nat, n ≤ 1440 ∧ (∀ j : Nat, j ≤ n → okAt f st (x + j) = true) ∧ ∀ j : Nat, n < j → okAt f st (x + j) = false := by
  have hp : At f 0 := ⟨by omega, by omega⟩
  have hb := v.back
  have ⟨n, h1, h2, h3⟩ := last_of (P := fun n => okAt f st (x + n) = true) 1441 (by simpa using h) fun h1 => by
    have := (go_mono v st (x + (1441 : Nat)) (x + (1441 : Nat)) 0 [] [] hi hp (by omega) h1).2
    omega
  refine ⟨n, by omega, fun j hj => (go_mono v st (x + j) (x + n) 0 [] [] hi hp (by omega) h2).1, fun j hj => ?_⟩
  cases hc : okAt f st (x + j) with
  | false => rfl
  | true => exact absurd (go_mono v st (x + (n + 1 : Nat)) (x + j) 0 [] [] hi hp (by omega) hc).1 h3
theorem e26l {fuel : Nat} {f : Fleet} (v : Val f) {st : List Int} (hi : In f st) (hs : st.length ≤ 1000) (hf : st.length < fuel) {r : Tour × List Int × Int} (hx : 0 ≤ r.1.leave ∧ r.1.leave ≤ 1440) {N : Nat} (hN : N ≤ 1440)
    (h1 : ∀ j : Nat, j ≤ N → okAt f st (r.1.leave + j) = true) (h2 : okAt f st (r.1.leave + (N + 1 : Nat)) = false) : ∀ (d n k : Nat), n + d = N → d < k → mg12_l0 fuel f st r k n = some ((N : Int), 0)
  | d, n, 0, _, hk => by omega
  | 0, n, k + 1, he, hk => by
    have e : n = N := by omega
    subst e
    have ⟨u, e1, e2⟩ := e66 (fuel := fuel) v hi hs hf (a := r.1.leave + n + 1) (by omega) (by omega)
    have h3 : (go f st (r.1.leave + n + 1) 0 []).2.2 = false := by rw [show r.1.leave + (n : Int) + 1 = r.1.leave + (n + 1 : Nat) by omega]; exact h2
    rw [mg12_l0, chk_64 (by omega) (by omega), chk_64 (by omega) (by omega), e1, bnd_s, h3]
    rfl
  | d + 1, n, k + 1, he, hk => by
    have ⟨u, e1, e2⟩ := e66 (fuel := fuel) v hi hs hf (a := r.1.leave + n + 1) (by omega) (by omega)
    have h3 : (go f st (r.1.leave + n + 1) 0 []).2.2 = true := by rw [show r.1.leave + (n : Int) + 1 = r.1.leave + (n + 1 : Nat) by omega]; exact h1 _ (by omega)
    have hn : n ≤ 1000000000 := by omega
    rw [mg12_l0, chk_64 (by omega) (by omega), chk_64 (by omega) (by omega), e1, bnd_s, h3, Bool.not_true, cond_false, chk_next hn]
    exact e26l v hi hs hf hx hN h1 h2 d (n + 1) k (by omega) (by omega)
end Go.Proofs.Ytdhhimfcjoclfaa
