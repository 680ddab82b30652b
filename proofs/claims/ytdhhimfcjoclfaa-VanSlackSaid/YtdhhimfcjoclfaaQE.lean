/- Plain law of VanSlack: the fleet that is made, the division, the law. -/
import Derived.Test.YtdhhimfcjoclfaaQD
import Derived.KernelRfl
set_option linter.unusedVariables false
set_option linter.unusedSimpArgs false
namespace Go.Proofs.Ytdhhimfcjoclfaa
open Go Go.K Go.V

def U8 (l : List Int) : Prop := ∀ x ∈ l, 0 ≤ x ∧ x ≤ 255
theorem next_ok {fuel : Nat} {l : List Int} (hl : U8 l) {i n : Int} (hi : 0 ≤ i ∧ i ≤ 1000000) (hn : 1 ≤ n ∧ n ≤ 1000000) : ∃ v, mg7 fuel l i n = some (v, i + 1) ∧ 0 ≤ v ∧ v < n := by
  rw [mg7, chk_64 (by omega) (by omega)]
  by_cases hc : (l.length : Int) < i + 1
  · rw [decide_eq_true hc, cond_true]; exact ⟨0, rfl, by omega, by omega⟩
  · have hlt : i.toNat < l.length := by omega
    have hx := hl _ (List.getElem_mem hlt)
    have hd : dv l[i.toNat] n = true := by
      have h1 := Int.tdiv_nonneg hx.1 (show 0 ≤ n by omega)
      have h2 : l[i.toNat].tdiv n ≤ l[i.toNat] := Int.tdiv_le_self _ hx.1
      simp only [dv, Bool.and_eq_true, Bool.not_eq_true', decide_eq_false_iff_not]
      exact ⟨by omega, ok64_of (by omega) (by omega)⟩
    rw [decide_eq_false hc, cond_false, chk_64 (by omega) (by omega), get_at (i := i + 1 - 1) (a := l[i.toNat]) (by omega) (by rw [show (i + 1 - 1).toNat = i.toNat by omega, List.getElem?_eq_getElem hlt]), chk_64 (by omega) (by omega), chk_of hd]
    exact ⟨_, rfl, Int.tmod_nonneg _ hx.1, Int.tmod_lt_of_pos _ (by omega)⟩
theorem made2 {fuel : Nat} {r : Int × Int} {x y y1 y2 : Int} {l : List (List Int)} {o : Int → List Int → Int → Int → Int → Int → List (List Int) → Option Fleet} {u : List Int} (hu : U8 u) {N : Nat} (hN : ((1 + r.1) + 1).toNat = N) (hN' : N ≤ 100) (hx : 0 ≤ x ∧ x ≤ 1000) (hll : l.length ≤ 1000) {C : Int} (hC : C ≤ 100000) {P : Fleet → Prop}
    (Hc : ∀ (i : Int) (l1 : List Int), l1.length = N → 0 ≤ i → i ≤ C → ∃ f, o (x + 1) u i y y1 y2 (l ++ [l1]) = some f ∧ P f) :
    ∀ (d j k : Nat) (i : Int) (l1 : List Int), j + d = N → d < k → l1.length = N → 0 ≤ i → i + d ≤ C → ∃ f, mg6_l2 fuel r x y y1 y2 l o k j u i l1 = some f ∧ P f
  | d, j, 0, i, l1, _, hk, _, _, _ => by omega
  | 0, j, k + 1, i, l1, hd, hk, hl, h0, hi => by
    rw [mg6_l2, decide_eq_false (by omega), cond_false, chk_lim (by omega), chk_64 (by omega) (by omega)]
    exact Hc i l1 hl h0 (by omega)
  | d + 1, j, k + 1, i, l1, hd, hk, hl, h0, hi => by
    have hj : j ≤ 1000000000 := by omega
    rw [mg6_l2, decide_eq_true (by omega), cond_true]
    by_cases hxj : x = j
    · rw [decide_eq_false (by simpa using hxj), cond_false, chk_next hj]
      exact made2 hu hN hN' hx hll hC Hc d (j + 1) k i l1 (by omega) (by omega) hl h0 (by omega)
    · obtain ⟨v, e, v0, v1⟩ := next_ok (fuel := fuel) hu (i := i) (n := 60) ⟨h0, by omega⟩ (by omega)
      have hjl : j < l1.length := by omega
      rw [decide_eq_true (by simpa using hxj), cond_true, e, bnd_s, chk_64 (by simp only; omega) (by simp only; omega), get_at (a := l1[j]) (by omega) (by rw [Int.toNat_natCast, List.getElem?_eq_getElem hjl]), chk_next hj]
      exact made2 hu hN hN' hx hll hC Hc d (j + 1) k (i + 1) _ (by omega) (by omega) (by rw [List.length_set]; exact hl) (by omega) (by omega)
theorem made1 {fuel : Nat} (hf : 200 < fuel) {r : Int × Int} {l2 : List Stop} {u : List Int} (hu : U8 u) {N : Nat} (hr0 : 0 ≤ r.1) (hN : ((1 + r.1) + 1).toNat = N) (hN' : N ≤ 7) {y y1 y2 : Int} :
    ∀ (d j k : Nat) (i : Int) (l : List (List Int)), j + d = N → d < k → l.length = j → (∀ q ∈ l, q.length = N) → 0 ≤ i → i + 7 * d ≤ 1000 → ∃ f, mg6_l1 fuel r l2 k j u i y y1 y2 l = some f ∧ f.stops = l2 ∧ f.minutes.length = N ∧ ∀ q ∈ f.minutes, q.length = N
  | d, j, 0, i, l, _, hk, _, _, _, _ => by omega
  | 0, j, k + 1, i, l, hd, hk, hl, hq, h0, hi => by
    rw [mg6_l1, decide_eq_false (by omega), cond_false]
    exact ⟨_, rfl, rfl, by simp only; omega, hq⟩
  | d + 1, j, k + 1, i, l, hd, hk, hl, hq, h0, hi => by
    rw [mg6_l1, decide_eq_true (by omega), cond_true, chk_64 (by omega) (by omega), chk_of (by simp [mk64]; omega)]
    exact made2 hu hN (by omega) ⟨by omega, by omega⟩ (by omega) (C := i + 7) (by omega) (P := fun f => f.stops = l2 ∧ f.minutes.length = N ∧ ∀ q ∈ f.minutes, q.length = N) (fun i' l1 hl1 h0' hi' =>
      made1 hf hu hr0 hN hN' d (j + 1) k i' (l ++ [l1]) (by omega) (by omega) (by simp; omega) (by
        intro q hq'
        rcases List.mem_append.1 hq' with h | h
        · exact hq q h
        · simp at h; subst h; exact hl1) h0' (by omega)) N 0 fuel i _ (by omega) (by omega) (by rw [List.length_replicate]; exact hN) h0 (by omega)
theorem made0 {fuel : Nat} (hf : 200 < fuel) {r : Int × Int} {u : List Int} (hu : U8 u) {n : Nat} (hr0 : 0 ≤ r.1) (hn : 1 + r.1 = n) (hn' : n ≤ 6) {y y1 y2 : Int} :
    ∀ (d j k : Nat) (i : Int) (l2 : List Stop), j + d = n → d < k → l2.length = j → 0 ≤ i → i + 5 * d ≤ 500 → ∃ f, mg6_l0 fuel r k j u i y y1 y2 l2 = some f ∧ f.stops.length = n ∧ f.minutes.length = n + 1 ∧ ∀ q ∈ f.minutes, q.length = n + 1
  | d, j, 0, i, l2, _, hk, _, _, _ => by omega
  | 0, j, k + 1, i, l2, hd, hk, hl, h0, hi => by
    rw [mg6_l0, decide_eq_false (by omega), cond_false, chk_64 (by omega) (by omega)]
    obtain ⟨f, e, f1, f2, f3⟩ := made1 (l2 := l2) hf hu (N := n + 1) hr0 (by omega) (by omega) (y := y) (y1 := y1) (y2 := y2) (n + 1) 0 fuel i [] (by omega) (by omega) rfl (by intro q hq; cases hq) h0 (by omega)
    exact ⟨f, e, by rw [f1]; omega, f2, f3⟩
  | d + 1, j, k + 1, i, l2, hd, hk, hl, h0, hi => by
    have hj : j ≤ 1000000000 := by omega
    obtain ⟨v1, e1, a1, b1⟩ := next_ok (fuel := fuel) hu (i := i) (n := 80) ⟨h0, by omega⟩ (by omega)
    obtain ⟨v2, e2, a2, b2⟩ := next_ok (fuel := fuel) hu (i := i + 1) (n := 100) ⟨by omega, by omega⟩ (by omega)
    obtain ⟨v3, e3, a3, b3⟩ := next_ok (fuel := fuel) hu (i := i + 1 + 1) (n := 150) ⟨by omega, by omega⟩ (by omega)
    obtain ⟨v4, e4, a4, b4⟩ := next_ok (fuel := fuel) hu (i := i + 1 + 1 + 1) (n := 12) ⟨by omega, by omega⟩ (by omega)
    obtain ⟨v5, e5, a5, b5⟩ := next_ok (fuel := fuel) hu (i := i + 1 + 1 + 1 + 1) (n := 150) ⟨by omega, by omega⟩ (by omega)
    rw [mg6_l0, decide_eq_true (by omega), cond_true, e1, bnd_s, e2, bnd_s, e3, bnd_s, e4, bnd_s, e5, bnd_s, chk_64 (by simp only; omega) (by simp only; omega), chk_64 (by simp only; omega) (by simp only; omega), chk_lim (by omega), chk_next hj]
    exact made0 hf hu hr0 hn hn' d (j + 1) k (i + 1 + 1 + 1 + 1 + 1) _ (by omega) (by omega) (by simp; omega) (by omega) (by omega)
theorem made {fuel : Nat} (hf : 200 < fuel) {l : List Int} (hl : U8 l) : ∃ f, mg6 fuel l 6 = some f ∧ Fit f := by
  obtain ⟨v1, e1, a1, b1⟩ := next_ok (fuel := fuel) hl (i := 0) (n := 200) (by omega) (by omega)
  obtain ⟨v2, e2, a2, b2⟩ := next_ok (fuel := fuel) hl (i := 0 + 1) (n := 60) (by omega) (by omega)
  obtain ⟨v3, e3, a3, b3⟩ := next_ok (fuel := fuel) hl (i := 0 + 1 + 1) (n := 248) (by omega) (by omega)
  obtain ⟨v4, e4, a4, b4⟩ := next_ok (fuel := fuel) hl (i := 0 + 1 + 1 + 1) (n := 6) (by omega) (by omega)
  rw [mg6, e1, bnd_s, chk_64 (by simp only; omega) (by simp only; omega), e2, bnd_s, e3, bnd_s, chk_64 (by simp only; omega) (by simp only; omega), chk_64 (by simp only; omega) (by simp only; omega), e4, bnd_s, chk_64 (by simp only; omega) (by simp only; omega)]
  obtain ⟨f, e, f1, f2, f3⟩ := made0 (r := (v4, 0 + 1 + 1 + 1 + 1)) hf hl (n := (1 + v4).toNat) a4 (by simp only; omega) (by omega) (y := 60 + v1) (y1 := v2) (y2 := 200 + 5 * v3) (1 + v4).toNat 0 fuel (0 + 1 + 1 + 1 + 1) [] (by omega) (by omega) rfl (by omega) (by omega)
  exact ⟨f, e, by omega, by omega, fun q hq => by have := f3 q hq; omega⟩
theorem set_len {l : List (List Int)} {k : Nat} {q : List Int} {B : Nat} (h : ∀ x ∈ l, x.length ≤ B) (hq : q.length ≤ B) : ∀ x ∈ l.set k q, x.length ≤ B := fun x hx => by
  rcases List.mem_or_eq_of_mem_set hx with h1 | h1
  · exact h x h1
  · rw [h1]; exact hq
theorem divided_ok {fuel : Nat} {n : Nat} (hn : n ≤ 12) {u : List Int} (hu : U8 u) : ∀ (d x k : Nat) (i : Int) (l : List (List Int)), x + d = n → d < k → l.length ≤ x → (∀ q ∈ l, q.length ≤ x) → 0 ≤ i → i + 2 * d ≤ 1000 →
    ∃ out, mg9_l0 fuel n k x u i l = some out ∧ out.length ≤ 12 ∧ ∀ q ∈ out, q.length ≤ 12
  | d, x, 0, i, l, _, hk, _, _, _, _ => by omega
  | 0, x, k + 1, i, l, hd, hk, hl, hq, h0, hi => by
    rw [mg9_l0, decide_eq_false (by omega), cond_false]
    exact ⟨l, rfl, by omega, fun q h => by have := hq q h; omega⟩
  | d + 1, x, k + 1, i, l, hd, hk, hl, hq, h0, hi => by
    have hx : x ≤ 1000000000 := by omega
    obtain ⟨v, e, v0, v1⟩ := next_ok (fuel := fuel) hu (i := i) (n := ((l.length + 1 : Nat) : Int)) ⟨h0, by omega⟩ ⟨by omega, by omega⟩
    rw [mg9_l0, decide_eq_true (by omega), cond_true, chk_64 (by omega) (by omega)]
    have e' : mg7 fuel u i ((l.length : Int) + 1) = some (v, i + 1) := e
    rw [e', bnd_s]
    by_cases hv : v = l.length
    · obtain ⟨p, e2, p0, p1⟩ := next_ok (fuel := fuel) hu (i := i + 1) (n := 1) ⟨by omega, by omega⟩ (by omega)
      have hg : ∀ {β : Type} (q : List Int → Option β), getK (l ++ [([] : List Int)]) v q = q [] := fun q => get_at v0 (by rw [show v.toNat = l.length by omega]; simp) q
      have e2' : mg7 fuel u (i + 1) ((([] : List Int).length : Int) + 1) = some (p, i + 1 + 1) := e2
      have hp : p = 0 := by omega
      subst hp
      rw [decide_eq_true hv, cond_true, chk_lim (by omega), hg, hg, chk_64 (by simp) (by simp), e2', bnd_s, chk_of (by rfl), chk_lim (by simp), hg, chk_next hx]
      refine divided_ok hn hu d (x + 1) k (i + 1 + 1) _ (by omega) (by omega) (by simp; omega) (set_len (fun q h => ?_) (by simp [insAt])) (by omega) (by omega)
      rcases List.mem_append.1 h with h | h
      · have := hq q h; omega
      · simp at h; subst h; simp
    · have hlt : v.toNat < l.length := by omega
      have hg : ∀ {β : Type} (q : List Int → Option β), getK l v q = q l[v.toNat] := fun q => get_at v0 (List.getElem?_eq_getElem hlt) q
      have hqv := hq _ (List.getElem_mem hlt)
      obtain ⟨p, e2, p0, p1⟩ := next_ok (fuel := fuel) hu (i := i + 1) (n := ((l[v.toNat].length + 1 : Nat) : Int)) ⟨by omega, by omega⟩ ⟨by omega, by omega⟩
      have e2' : mg7 fuel u (i + 1) ((l[v.toNat].length : Int) + 1) = some (p, i + 1 + 1) := e2
      rw [decide_eq_false hv, cond_false, hg, hg, chk_64 (by omega) (by omega), e2', bnd_s, chk_of (by simp [upto, Nat.ble_eq]; omega), chk_lim (by omega), hg, chk_next hx]
      exact divided_ok hn hu d (x + 1) k (i + 1 + 1) _ (by omega) (by omega) (by rw [List.length_set]; omega) (set_len (fun q h => by have := hq q h; omega) (by rw [insAt_length (by omega)]; omega)) (by omega) (by omega)
end Go.Proofs.Ytdhhimfcjoclfaa
