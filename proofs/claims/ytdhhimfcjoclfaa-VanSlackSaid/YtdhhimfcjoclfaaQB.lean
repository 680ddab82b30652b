/- Plain law of VanTours, part 1: steps of models; Check. -/
import Derived.Test.YtdhhimfcjoclfaaVM
set_option linter.unusedVariables false
set_option linter.unusedSimpArgs false
namespace Go.Proofs.Ytdhhimfcjoclfaa
open Go Go.K Go.V

section
variable {α β : Type}
theorem drop_c {xs : List α} {n : Nat} {a : α} {t : List α} (h : xs.drop n = a :: t) : n < xs.length ∧ xs[n]? = some a ∧ xs.drop (n + 1) = t := by
  have hl : n < xs.length := by
    rcases Nat.lt_or_ge n xs.length with h' | h'
    · exact h'
    · rw [List.drop_eq_nil_of_le h'] at h; cases h
  rw [List.drop_eq_getElem_cons hl] at h
  injection h with h1 h2
  exact ⟨hl, by rw [List.getElem?_eq_getElem hl, h1], h2⟩
theorem drop_n {xs : List α} {n : Nat} (h : xs.drop n = []) : xs.length ≤ n := List.drop_eq_nil_iff.1 h
theorem dec_c {xs : List α} {n : Nat} {a : α} {t : List α} (h : xs.drop n = a :: t) : decide ((n : Int) < (xs.length : Int)) = true := by
  have := (drop_c h).1; exact decide_eq_true (by omega)
theorem dec_n {xs : List α} {n : Nat} (h : xs.drop n = []) : decide ((n : Int) < (xs.length : Int)) = false := by
  have := drop_n h; exact decide_eq_false (by omega)
theorem get_c {xs : List α} {n : Nat} {a : α} {t : List α} (h : xs.drop n = a :: t) (k : α → Option β) : getK xs (n : Int) k = k a :=
  getK_of (by omega) (by simpa using (drop_c h).2.1)
theorem get_at {xs : List α} {i : Int} {a : α} (h0 : 0 ≤ i) (h : xs[i.toNat]? = some a) (k : α → Option β) : getK xs i k = k a := getK_of h0 h
theorem bnd_s (x : α) (k : α → Option β) : bnd (some x) k = k x := bnd_of rfl
theorem chk_64 {x : Int} {A : Option β} (h1 : -9223372036854775808 ≤ x) (h2 : x ≤ 9223372036854775807) : chk (ok64 x) A = A := chk_of (ok64_of h1 h2)
theorem chk_next {n : Nat} {A : Option β} (h : n ≤ 1000000000) : chk (ok64 ((n : Int) + 1)) A = A := chk_64 (by omega) (by omega)
theorem chk_lim {n : Nat} {A : Option β} (h : n ≤ 1000000000) : chk (lim n) A = A := chk_of (lim_of h)
theorem drop_len {xs : List α} {n : Nat} {t : List α} (h : xs.drop n = t) : t.length = xs.length - n := by rw [← h, List.length_drop]

/-- The first element that a test takes. -/
def idxL (s : List α) (q : α → Option Bool) : Nat → Int → Option Int
  | 0, _ => none
  | k + 1, x => (bif decide (x < ((s.length : Nat) : Int)) then getK s x fun a => bnd (q a) fun r => (bif r then some x else chk (ok64 (x + 1)) <| idxL s q k (x + 1)) else some (-1))
theorem idxL_eq {s : List α} {q : α → Option Bool} {p : α → Bool} (hs : s.length ≤ 1000) (hq : ∀ a ∈ s, q a = some (p a)) (t : List α) :
    ∀ (n k : Nat), s.drop n = t → t.length < k → ∃ r : Int, idxL s q k n = some r ∧ decide (0 ≤ r) = t.any p := by
  induction t with
  | nil =>
    intro n k h hk
    match k, hk with
    | k + 1, _ => exact ⟨-1, by simp only [idxL, dec_n h, cond_false], rfl⟩
  | cons a t ih =>
    intro n k h hk
    match k, hk with
    | k + 1, hk =>
      have ⟨h1, h2, h3⟩ := drop_c h
      have hk' : t.length < k := Nat.lt_of_succ_lt_succ hk
      have hn : n ≤ 1000000000 := by omega
      have ⟨r, e1, e2⟩ := ih (n + 1) k h3 hk'
      rw [idxL, dec_c h, cond_true, get_c h, hq a (List.mem_of_getElem? h2), bnd_s, chk_next hn, List.any_cons]
      cases hp : p a with
      | true => exact ⟨n, rfl, decide_eq_true (by omega)⟩
      | false => exact ⟨r, e1, e2⟩
end

theorem l103_eq (fuel : Nat) (s : List Int) (q : Int → Option Bool) : ∀ (k : Nat) (x : Int), mg57_l0 fuel s q k x = idxL s q k x
  | 0, _ => rfl
  | k + 1, x => by simp only [mg57_l0, idxL, l103_eq fuel s q k]
theorem l105_eq (fuel : Nat) (s : List Stop) (q : Stop → Option Bool) : ∀ (k : Nat) (x : Int), mg63_l0 fuel s q k x = idxL s q k x
  | 0, _ => rfl
  | k + 1, x => by simp only [mg63_l0, idxL, l105_eq fuel s q k]
theorem any53 {fuel : Nat} {s : List Int} {q : Int → Option Bool} {p : Int → Bool} (hf : s.length < fuel) (hs : s.length ≤ 1000) (hq : ∀ a ∈ s, q a = some (p a)) : mg31 fuel s q = some (s.any p) := by
  have ⟨r, e1, e2⟩ := idxL_eq hs hq s 0 fuel rfl hf
  simp only [mg31, mg57, l103_eq]
  rw [show (0 : Int) = ((0 : Nat) : Int) from rfl, e1, bnd_s]
  exact congrArg some e2
theorem any61 {fuel : Nat} {s : List Stop} {q : Stop → Option Bool} {p : Stop → Bool} (hf : s.length < fuel) (hs : s.length ≤ 1000) (hq : ∀ a ∈ s, q a = some (p a)) : mg39 fuel s q = some (s.any p) := by
  have ⟨r, e1, e2⟩ := idxL_eq hs hq s 0 fuel rfl hf
  simp only [mg39, mg63, l105_eq]
  rw [show (0 : Int) = ((0 : Nat) : Int) from rfl, e1, bnd_s]
  exact congrArg some e2

/-! ### Check -/
def inb (n a b : Int) : Bool := decide (a ≤ n) && decide (n ≤ b)
theorem inb_iff {n a b : Int} : inb n a b = true ↔ a ≤ n ∧ n ≤ b := by simp [inb]
theorem e59 (fuel : Nat) (n a b : Int) : mg33 fuel n a b = some (inb n a b) := by
  unfold mg33 inb; cases decide (a ≤ n) <;> rfl
theorem e60 {fuel : Nat} {l : List Int} (hf : l.length < fuel) (hs : l.length ≤ 1000) : mg38 fuel l = some (!l.any fun n => !inb n 0 1440) := by
  simp only [mg38]
  rw [any53 (p := fun n => !inb n 0 1440) hf hs fun a _ => by simp only [mg62, e59, bnd_s], bnd_s]
def stopOk (s : Stop) : Bool := inb s.load 0 10000 && (inb s.ready 0 1440 && (inb s.opn 0 1440 && (inb s.close s.opn 1440 && inb s.serve 0 120)))
theorem e62 {fuel : Nat} (hf : 3 < fuel) (s : Stop) : mg40 fuel s = some (!stopOk s) := by
  simp only [mg40, e59, bnd_s]
  rw [e60 (l := [s.ready, s.opn, s.close]) hf (by simp)]
  simp only [bnd_s, List.any_cons, List.any_nil, stopOk]
  cases inb s.load 0 10000 <;> cases inb s.ready 0 1440 <;> cases h : inb s.opn 0 1440 <;> cases h2 : inb s.serve 0 120 <;> try (cases inb s.close 0 1440 <;> cases inb s.close s.opn 1440 <;> rfl)
  have := inb_iff.1 h
  cases h3 : inb s.close 0 1440 <;> cases h4 : inb s.close s.opn 1440 <;> simp [inb] at h3 h4 ⊢ <;> omega
def rowOk (N i : Nat) (row : List Int) : Bool := decide (row.length = N) && (decide (row.getD i 0 = 0) && !row.any fun n => !inb n 0 600)
def okRows (N : Nat) : Nat → List (List Int) → Bool
  | _, [] => true
  | i, r :: t => rowOk N i r && okRows N (i + 1) t
theorem e18l {fuel : Nat} {f : Fleet} (hm : f.minutes.length ≤ 14) (hr : ∀ r ∈ f.minutes, r.length ≤ 14) (hf : 20 < fuel) :
    ∀ (t : List (List Int)) (i k : Nat), f.minutes.drop i = t → t.length < k → mg18_l0 fuel f k i = some (bif okRows f.minutes.length i t then 0 else 1)
  | [], _, 0, _, hk => by simp at hk
  | _ :: _, _, 0, _, hk => by simp at hk
  | [], i, k + 1, h, hk => by simp only [mg18_l0, dec_n h, cond_false, okRows, cond_true]
  | a :: t, i, k + 1, h, hk => by
    have ⟨h1, h2, h3⟩ := drop_c h
    have ha := hr a (List.mem_of_getElem? h2)
    simp only [mg18_l0, dec_c h, cond_true, get_c h]
    by_cases hl : a.length = f.minutes.length
    · rw [decide_eq_false (by simp [hl]), cond_false, get_at (a := a.getD i 0) (by omega) (by simp [List.getD]; rw [List.getElem?_eq_getElem (by omega)]; rfl)]
      by_cases hz : a.getD i 0 = 0
      · rw [decide_eq_false (by simp only [hz]; decide), cond_false, any53 (p := fun n => !inb n 0 600) (by omega) (by omega) fun n _ => by simp only [mg41, e59, bnd_s], bnd_s]
        have hi := e18l hm hr hf t (i + 1) k h3 (by simp at hk; omega)
        have e : rowOk f.minutes.length i a = !a.any fun n => !inb n 0 600 := by unfold rowOk; rw [decide_eq_true hl, decide_eq_true hz]; rfl
        rw [okRows, e]
        cases hc : a.any fun n => !inb n 0 600 with
        | true => rfl
        | false =>
          rw [cond_false, chk_next (by omega), show ((i : Int) + 1) = ((i + 1 : Nat) : Int) from rfl, hi]
          rfl
      · rw [decide_eq_true (by simpa using hz), cond_true]
        have e : rowOk f.minutes.length i a = false := by unfold rowOk; rw [decide_eq_false hz]; simp only [Bool.false_and, Bool.and_false]
        rw [okRows, e]; rfl
    · have hl' : decide (a.length = f.minutes.length) = false := decide_eq_false hl
      rw [decide_eq_true (by omega), cond_true]
      have e : rowOk f.minutes.length i a = false := by unfold rowOk; rw [hl']; rfl
      rw [okRows, e]; rfl
def cellsOk (i : Nat) : Nat → List Int → Bool
  | _, [] => true
  | j, c :: t => inb c 0 600 && (!(decide (i = j) && decide (c ≠ 0)) && cellsOk i (j + 1) t)
theorem cells_eq (i : Nat) : ∀ (u : List Int) (j : Nat), cellsOk i j u = ((!u.any fun n => !inb n 0 600) && (decide (i < j) || decide (u.getD (i - j) 0 = 0)))
  | [], j => by simp [cellsOk]
  | c :: t, j => by
    simp only [cellsOk, cells_eq i t (j + 1), List.any_cons]
    rcases Nat.lt_trichotomy i j with h | h | h
    · rw [decide_eq_false (by omega : ¬ i = j), decide_eq_true h, decide_eq_true (by omega : i < j + 1)]
      cases inb c 0 600 <;> simp
    · subst h
      rw [decide_eq_true (by omega : i < i + 1), decide_eq_false (by omega : ¬ i < i)]
      simp only [Nat.sub_self, List.getD_cons_zero]
      cases inb c 0 600 <;> by_cases hc : c = 0 <;> simp [hc]
    · rw [decide_eq_false (by omega : ¬ i = j), decide_eq_false (by omega : ¬ i < j), decide_eq_false (by omega : ¬ i < j + 1)]
      rw [show i - j = (i - (j + 1)) + 1 by omega, List.getD_cons_succ]
      cases inb c 0 600 <;> simp
def chkF (f : Fleet) : Int :=
  bif !inb f.stops.length 1 8 then 2 else bif !inb f.cap 0 100000 then 6 else bif !inb f.start 0 1440 then 6 else bif !inb f.back 0 1440 then 6 else
  bif f.stops.any (fun s => !stopOk s) then 6 else bif decide (f.minutes.length ≠ f.stops.length + 1) then 1 else bif okRows f.minutes.length 0 f.minutes then 0 else 1
structure Fit (f : Fleet) : Prop where
  n : f.stops.length ≤ 12
  m : f.minutes.length ≤ 14
  r : ∀ r ∈ f.minutes, r.length ≤ 14
theorem e18 {fuel : Nat} {f : Fleet} (h : Fit f) (hf : 20 < fuel) : mg18 fuel f = some (chkF f) := by
  have hn := h.n
  simp only [mg18, e59, bnd_s, chkF]
  rw [e60 (l := [f.start, f.back]) (by simp; omega) (by simp), any61 (p := fun s => !stopOk s) (by omega) (by omega) fun s _ => e62 (by omega) s]
  simp only [bnd_s, List.any_cons, List.any_nil]
  have q : mg18_l0 fuel f fuel 0 = _ := e18l h.m h.r hf f.minutes 0 fuel rfl (by have := h.m; omega)
  rw [chk_64 (by omega) (by omega), q]
  have e : decide (((f.minutes.length : Nat) : Int) ≠ (f.stops.length : Int) + 1) = decide (f.minutes.length ≠ f.stops.length + 1) := by congr 1; simp; omega
  rw [e]
  cases inb (↑f.stops.length) 1 8 <;> cases inb f.cap 0 100000 <;> cases inb f.start 0 1440 <;> cases inb f.back 0 1440 <;> cases f.stops.any (fun s => !stopOk s) <;> cases decide (f.minutes.length ≠ f.stops.length + 1) <;> rfl
end Go.Proofs.Ytdhhimfcjoclfaa
