/- Plain law of VanTours, part 2: valid fleets; ask; load, leave. -/
import Derived.Test.YtdhhimfcjoclfaaQB
set_option linter.unusedVariables false
set_option linter.unusedSimpArgs false
namespace Go.Proofs.Ytdhhimfcjoclfaa
open Go Go.K Go.V

structure Val (f : Fleet) : Prop where
  n1 : 1 ≤ f.stops.length
  n8 : f.stops.length ≤ 8
  cap : 0 ≤ f.cap ∧ f.cap ≤ 100000
  start : 0 ≤ f.start ∧ f.start ≤ 1440
  back : 0 ≤ f.back ∧ f.back ≤ 1440
  stops : ∀ s ∈ f.stops, stopOk s = true
  len : f.minutes.length = f.stops.length + 1
  rows : okRows f.minutes.length 0 f.minutes = true
theorem val_of {f : Fleet} (h : chkF f = 0) : Val f := by
  unfold chkF at h
  cases h1 : inb f.stops.length 1 8 <;> simp only [h1, Bool.not_true, Bool.not_false, cond_true, cond_false] at h
  · cases h
  cases h2 : inb f.cap 0 100000 <;> simp only [h2, Bool.not_true, Bool.not_false, cond_true, cond_false] at h
  · cases h
  cases h3 : inb f.start 0 1440 <;> simp only [h3, Bool.not_true, Bool.not_false, cond_true, cond_false] at h
  · cases h
  cases h4 : inb f.back 0 1440 <;> simp only [h4, Bool.not_true, Bool.not_false, cond_true, cond_false] at h
  · cases h
  cases h5 : f.stops.any (fun s => !stopOk s) <;> simp only [h5, Bool.not_true, Bool.not_false, cond_true, cond_false] at h
  case true => cases h
  cases h6 : decide (f.minutes.length ≠ f.stops.length + 1) <;> simp only [h6, Bool.not_true, Bool.not_false, cond_true, cond_false] at h
  case true => cases h
  cases h7 : okRows f.minutes.length 0 f.minutes <;> simp only [h7, cond_true, cond_false] at h
  · cases h
  have a1 := inb_iff.1 h1
  exact ⟨by omega, by omega, inb_iff.1 h2, inb_iff.1 h3, inb_iff.1 h4, fun s hs => by
    cases hk : stopOk s with
    | true => rfl
    | false =>
      rw [List.any_eq_false] at h5
      exact absurd (by rw [hk]; rfl) (h5 s hs), by simpa using h6, h7⟩

def S (f : Fleet) (s : Int) : Stop := (f.stops[s.toNat]?).getD ⟨0, 0, 0, 0, 0⟩
def R (f : Fleet) (p : Int) : List Int := f.minutes.getD p.toNat []
def M (f : Fleet) (p q : Int) : Int := (R f p).getD q.toNat 0
theorem okRows_at {N : Nat} : ∀ (t : List (List Int)) (i : Nat), okRows N i t = true → ∀ j r, t[j]? = some r → rowOk N (i + j) r = true
  | [], _, _, j, r, h => by simp at h
  | a :: t, i, h, 0, r, hr => by
    simp only [okRows, Bool.and_eq_true] at h
    simp at hr; subst hr
    exact h.1
  | a :: t, i, h, j + 1, r, hr => by
    simp only [okRows, Bool.and_eq_true] at h
    have := okRows_at t (i + 1) h.2 j r (by simpa using hr)
    rwa [show i + (j + 1) = i + 1 + j by omega]
section
variable {f : Fleet} {β : Type}
theorem gS {s : Int} (h0 : 0 ≤ s) (h1 : s < f.stops.length) (k : Stop → Option β) : getK f.stops s k = k (S f s) :=
  get_at h0 (by unfold S; rw [List.getElem?_eq_getElem (by omega)]; rfl) k
theorem gR {p : Int} (h0 : 0 ≤ p) (h1 : p < f.minutes.length) (k : List Int → Option β) : getK f.minutes p k = k (R f p) :=
  get_at h0 (by unfold R; rw [List.getD_eq_getElem?_getD, List.getElem?_eq_getElem (by omega)]; rfl) k
theorem Val.row (v : Val f) {p : Int} (h0 : 0 ≤ p) (h1 : p ≤ f.stops.length) : (R f p).length = f.stops.length + 1 ∧ ∀ x ∈ R f p, 0 ≤ x ∧ x ≤ 600 := by
  have hl := v.len
  have h2 : f.minutes[p.toNat]? = some (R f p) := by unfold R; rw [List.getD_eq_getElem?_getD, List.getElem?_eq_getElem (by omega)]; rfl
  have h3 := okRows_at _ _ v.rows _ _ h2
  simp only [rowOk, Bool.and_eq_true, decide_eq_true_eq, Bool.not_eq_true', List.any_eq_false] at h3
  refine ⟨by omega, fun x hx => ?_⟩
  have h4 := h3.2.2 x hx
  cases hb : inb x 0 600 with
  | true => exact inb_iff.1 hb
  | false => rw [hb] at h4; exact absurd rfl h4
theorem gM (v : Val f) {p q : Int} (h0 : 0 ≤ p) (h1 : p ≤ f.stops.length) (h2 : 0 ≤ q) (h3 : q ≤ f.stops.length) (k : Int → Option β) : getK (R f p) q k = k (M f p q) :=
  get_at h2 (by have := (v.row h0 h1).1; unfold M; rw [List.getD_eq_getElem?_getD, List.getElem?_eq_getElem (by omega)]; rfl) k
theorem Val.M_b (v : Val f) {p q : Int} (h0 : 0 ≤ p) (h1 : p ≤ f.stops.length) (h2 : 0 ≤ q) (h3 : q ≤ f.stops.length) : 0 ≤ M f p q ∧ M f p q ≤ 600 := by
  have h4 := v.row h0 h1
  refine h4.2 _ ?_
  unfold M
  rw [List.getD_eq_getElem?_getD, List.getElem?_eq_getElem (by omega)]
  exact List.getElem_mem _
theorem Val.S_b (v : Val f) {s : Int} (h0 : 0 ≤ s) (h1 : s < f.stops.length) : (0 ≤ (S f s).load ∧ (S f s).load ≤ 10000) ∧ (0 ≤ (S f s).ready ∧ (S f s).ready ≤ 1440) ∧ (0 ≤ (S f s).opn ∧ (S f s).opn ≤ 1440) ∧ ((S f s).opn ≤ (S f s).close ∧ (S f s).close ≤ 1440) ∧ (0 ≤ (S f s).serve ∧ (S f s).serve ≤ 120) := by
  have h2 := v.stops (S f s) (by unfold S; rw [List.getElem?_eq_getElem (by omega)]; exact List.getElem_mem _)
  simp only [stopOk, Bool.and_eq_true, inb_iff] at h2
  exact h2
end

/-! ### Stops -/
def In (f : Fleet) (l : List Int) : Prop := ∀ s ∈ l, 0 ≤ s ∧ s < f.stops.length
def loadF (f : Fleet) : List Int → Int
  | [] => 0
  | s :: t => (S f s).load + loadF f t
def leaveF (f : Fleet) : Int → List Int → Int
  | at_, [] => at_
  | at_, s :: t => leaveF f (max at_ (S f s).ready) t
theorem loadF_b {f : Fleet} (v : Val f) : ∀ l : List Int, In f l → 0 ≤ loadF f l ∧ loadF f l ≤ 10000 * l.length
  | [], _ => by simp [loadF]
  | s :: t, h => by
    have h1 := loadF_b v t fun x hx => h x (.tail _ hx)
    have h2 := (v.S_b (h s (.head _)).1 (h s (.head _)).2).1
    simp only [loadF, List.length_cons]
    omega
theorem loadF_perm {f : Fleet} {a b : List Int} (h : a.Perm b) : loadF f a = loadF f b := by
  induction h with
  | nil => rfl
  | cons x _ ih => simp only [loadF, ih]
  | swap x y l => simp only [loadF]; omega
  | trans _ _ h1 h2 => rw [h1, h2]
theorem leaveF_perm {f : Fleet} {a b : List Int} (h : a.Perm b) : ∀ x, leaveF f x a = leaveF f x b := by
  induction h with
  | nil => intro x; rfl
  | cons x _ ih => intro y; simp only [leaveF, ih]
  | swap x y l => intro z; simp only [leaveF]; congr 1; omega
  | trans _ _ h1 h2 => intro x; rw [h1, h2]
theorem leaveF_b {f : Fleet} (v : Val f) : ∀ (l : List Int) (x : Int), In f l → x ≤ leaveF f x l ∧ (x ≤ 1440 → leaveF f x l ≤ 1440)
  | [], x, _ => ⟨Int.le_refl _, fun h => h⟩
  | s :: t, x, h => by
    have h1 := leaveF_b v t (max x (S f s).ready) fun y hy => h y (.tail _ hy)
    have h2 := (v.S_b (h s (.head _)).1 (h s (.head _)).2).2.1
    simp only [leaveF]
    omega
theorem e107l {fuel : Nat} {f : Fleet} (v : Val f) {st : List Int} (hi : In f st) (hs : st.length ≤ 1000) (t : List Int) : ∀ (n k : Nat) (a : Int), st.drop n = t → t.length < k → 0 ≤ a → a + 10000 * t.length ≤ 1000000000 →
    mg50_l0 fuel f st k a n = some (a + loadF f t) := by
  induction t with
  | nil =>
    intro n k a hd hk h0 h1
    match k, hk with
    | k + 1, _ => rw [mg50_l0, dec_n hd, cond_false, loadF, Int.add_zero]
  | cons s t ih =>
    intro n k a hd hk h0 h1
    match k, hk with
    | k + 1, hk =>
      have ⟨h2, h3, h4⟩ := drop_c hd
      have h5 := hi s (List.mem_of_getElem? h3)
      have h6 := (v.S_b h5.1 h5.2).1
      have hk' : t.length < k := Nat.lt_of_succ_lt_succ hk
      have hn : n ≤ 1000000000 := by omega
      simp only [List.length_cons] at h1
      rw [mg50_l0, dec_c hd, cond_true, get_c hd, gS h5.1 h5.2, chk_64 (by omega) (by omega), chk_next hn, show ((n : Int) + 1) = ((n + 1 : Nat) : Int) from rfl, ih (n + 1) k _ h4 hk' (by omega) (by omega), loadF]
      congr 1; omega
theorem e107 {fuel : Nat} {f : Fleet} (v : Val f) {st : List Int} (hi : In f st) (hs : st.length ≤ 1000) (hf : st.length < fuel) : mg50 fuel f st = some (loadF f st) := by
  have q : mg50_l0 fuel f st fuel 0 0 = _ := e107l v hi hs st 0 fuel 0 rfl hf (by omega) (by omega)
  rw [mg50, q, Int.zero_add]
theorem e67l {fuel : Nat} {f : Fleet} (v : Val f) {st : List Int} (hi : In f st) (hs : st.length ≤ 1000) (t : List Int) : ∀ (n k : Nat) (a : Int), st.drop n = t → t.length < k →
    mg24_l0 fuel f st k a n = some (leaveF f a t) := by
  induction t with
  | nil =>
    intro n k a hd hk
    match k, hk with
    | k + 1, _ => rw [mg24_l0, dec_n hd, cond_false, leaveF]
  | cons s t ih =>
    intro n k a hd hk
    match k, hk with
    | k + 1, hk =>
      have ⟨h2, h3, h4⟩ := drop_c hd
      have h5 := hi s (List.mem_of_getElem? h3)
      have hk' : t.length < k := Nat.lt_of_succ_lt_succ hk
      have hn : n ≤ 1000000000 := by omega
      rw [mg24_l0, dec_c hd, cond_true, get_c hd, gS h5.1 h5.2, chk_next hn, show ((n : Int) + 1) = ((n + 1 : Nat) : Int) from rfl, ih (n + 1) k _ h4 hk', leaveF]
theorem e67 {fuel : Nat} {f : Fleet} (v : Val f) {st : List Int} (hi : In f st) (hs : st.length ≤ 1000) (hf : st.length < fuel) : mg24 fuel f st = some (leaveF f f.start st) :=
  e67l v hi hs st 0 fuel f.start rfl hf
/-! ### ask -/
def okFrom (n : Int) (p : List Int) : List Int → Bool
  | [] => true
  | s :: t => inb s 0 (n - 1) && (!decide (s ∈ p) && okFrom n (p ++ [s]) t)
theorem okFrom_iff {n : Int} : ∀ (t p : List Int), okFrom n p t = true ↔ (∀ s ∈ t, 0 ≤ s ∧ s < n) ∧ t.Nodup ∧ ∀ s ∈ t, s ∉ p
  | [], p => by simp [okFrom]
  | s :: t, p => by
    simp only [okFrom, Bool.and_eq_true, inb_iff, Bool.not_eq_true', decide_eq_false_iff_not, okFrom_iff t (p ++ [s]), List.mem_cons, List.nodup_cons, List.mem_append, List.mem_nil_iff, or_false]
    constructor
    · rintro ⟨h1, h2, h3, h4, h5⟩
      refine ⟨?_, ⟨fun h => (h5 s h) (.inr rfl), h4⟩, ?_⟩
      · rintro x (rfl | hx)
        · omega
        · exact h3 x hx
      · rintro x (rfl | hx)
        · exact h2
        · exact fun h => h5 x hx (.inl h)
    · rintro ⟨h1, ⟨h2, h3⟩, h4⟩
      have := h1 s (.inl rfl)
      refine ⟨by omega, h4 s (.inl rfl), fun x hx => h1 x (.inr hx), h3, fun x hx h => ?_⟩
      rcases h with h | h
      · exact h4 x (.inr hx) h
      · subst h; exact h2 hx
def Good (f : Fleet) (l : List Int) : Prop := In f l ∧ l.Nodup
instance (f : Fleet) (l : List Int) : Decidable (Good f l) := decidable_of_iff (okFrom f.stops.length [] l = true) (by rw [okFrom_iff]; unfold Good In; simp)
theorem okFrom_good {f : Fleet} {l : List Int} : okFrom f.stops.length [] l = decide (Good f l) := by
  have h : okFrom f.stops.length [] l = true ↔ Good f l := by rw [okFrom_iff]; unfold Good In; simp
  cases hc : okFrom f.stops.length [] l with
  | true => exact (decide_eq_true (h.1 hc)).symm
  | false => exact (decide_eq_false fun hg => by rw [h.2 hg] at hc; cases hc).symm
theorem take_c {α : Type} {xs : List α} {n : Nat} {a : α} {t : List α} (h : xs.drop n = a :: t) : xs.take (n + 1) = xs.take n ++ [a] := by
  rw [List.take_add_one, (drop_c h).2.1]; rfl
def askF (f : Fleet) (st : List Int) : Int :=
  bif decide (chkF f ≠ 0) then chkF f else bif decide (st.length = 0) then 1 else bif decide (Good f st) then (bif decide (f.cap < loadF f st) then 110 else 0) else 1
theorem e114l {fuel : Nat} {l : List Int} (hs : l.length ≤ 1000) (t : List Int) : ∀ (n k : Nat) (y : List Int), l.drop n = t → t.length < k → y.length + t.length ≤ 1000 →
    mg69_l0 fuel (fun s x => mg84_r11 fuel s x) l k y n = some (y ++ t) := by
  induction t with
  | nil =>
    intro n k y hd hk hy
    match k, hk with
    | k + 1, _ => rw [mg69_l0, dec_n hd, cond_false, List.append_nil]
  | cons s t ih =>
    intro n k y hd hk hy
    match k, hk with
    | k + 1, hk =>
      have ⟨h2, h3, h4⟩ := drop_c hd
      have hk' : t.length < k := Nat.lt_of_succ_lt_succ hk
      have hn : n ≤ 1000000000 := by omega
      simp only [List.length_cons] at hy
      rw [mg69_l0, dec_c hd, cond_true, get_c hd, mg84_r11, chk_lim (by omega), bnd_s, chk_next hn, show ((n : Int) + 1) = ((n + 1 : Nat) : Int) from rfl, ih (n + 1) k _ h4 hk' (by simp; omega)]
      simp
theorem e73 {fuel : Nat} {l : List Int} (hs : l.length ≤ 1000) (hf : l.length < fuel) : mg47 fuel l = some (sorted l) := by
  have q : mg69_l0 fuel (fun s x => mg84_r11 fuel s x) l fuel [] 0 = _ := e114l hs l 0 fuel [] rfl hf (by simpa using hs)
  rw [mg47, mg67, mg84, mg69, q, bnd_s, bnd_s, bnd_s, mg68, mSort, List.nil_append, chk_lim (by omega), bnd_s]
theorem get_bang {zs : List Int} {j : Nat} (h : j < zs.length) : zs.toArray[j]! = zs[j] := by simp [getElem!_pos, h]
theorem compact_nodup {zs : List Int} (hs : zs.Pairwise (· ≤ ·)) : (Lib.compact zs).length = zs.length ↔ zs.Nodup := by
  constructor
  · intro h
    unfold Lib.compact Lib.compactUpTo at h
    rw [List.length_map] at h
    have h1 : ((List.range zs.length).filter (Lib.keeps zs.toArray)).length = (List.range zs.length).length := by rw [h, List.length_range]
    rw [List.length_filter_eq_length_iff] at h1
    refine List.pairwise_iff_getElem.2 fun i j hi hj hij he => ?_
    have h2 := h1 j (by simpa using hj)
    simp only [Lib.keeps, decide_eq_true_eq] at h2
    rw [get_bang hj, get_bang (by omega)] at h2
    have h3 : zs[j - 1] ≤ zs[j] := List.pairwise_iff_getElem.1 hs (j - 1) j (by omega) hj (by omega)
    have h4 : zs[i] ≤ zs[j - 1] := by
      by_cases he : i = j - 1
      · subst he; exact Int.le_refl _
      · exact List.pairwise_iff_getElem.1 hs i (j - 1) hi (by omega) (by omega)
    omega
  · intro h
    rw [Lib.compact_all]
    intro j hj
    simp only [Lib.keeps, decide_eq_true_eq]
    by_cases h0 : j = 0
    · exact .inl h0
    · right
      rw [get_bang hj, get_bang (by omega)]
      exact fun he => List.pairwise_iff_getElem.1 h (j - 1) j (by omega) hj (by omega) he.symm
theorem e65 {fuel : Nat} {f : Fleet} (h : Fit f) (hf : 20 < fuel) {st : List Int} (hs : st.length ≤ 1000) (hf' : st.length < fuel) : mg22 fuel f st = some (askF f st) := by
  rw [mg22, e18 h hf, bnd_s, askF]
  by_cases hc : chkF f = 0
  · have v := val_of hc
    have v8 := v.n8
    rw [decide_eq_false (by simpa using hc), cond_false, cond_false, e73 hs hf', bnd_s]
    have e : decide ((st.length : Int) = 0) = decide (st.length = 0) := by congr 1; simp
    rw [e]
    by_cases h0 : st.length = 0
    · rw [decide_eq_true h0, cond_true, cond_true]
    · have hl := sorted_length st
      have hso := sorted_sorted st
      have hp := sorted_perm st
      have g0 : (sorted st)[(0 : Int).toNat]? = some ((sorted st)[0]'(by omega)) := by rw [List.getElem?_eq_getElem]; rfl
      have gl : (sorted st)[((((sorted st).length : Nat) : Int) - 1).toNat]? = some ((sorted st)[(sorted st).length - 1]'(by omega)) := by
        rw [List.getElem?_eq_getElem (by omega)]; congr 2; omega
      rw [decide_eq_false h0, cond_false, cond_false, get_at (by omega) g0, chk_64 (by omega) (by omega), get_at (by omega) gl, mg49, mCompact, chk_lim (by omega), bnd_s]
      by_cases hn : (sorted st)[0]'(by omega) < 0
      · rw [decide_eq_true hn, cond_true, decide_eq_false fun hg => ?_, cond_false]
        have := hg.1 _ (hp.mem_iff.1 (List.getElem_mem (l := sorted st) (n := 0) (by omega)))
        omega
      · rw [decide_eq_false hn, cond_false]
        by_cases hu : (f.stops.length : Int) ≤ (sorted st)[(sorted st).length - 1]'(by omega)
        · rw [decide_eq_true hu, cond_true, decide_eq_false fun hg => ?_, cond_false]
          have := hg.1 _ (hp.mem_iff.1 (List.getElem_mem (l := sorted st) (n := (sorted st).length - 1) (by omega)))
          omega
        · rw [decide_eq_false hu, cond_false]
          have hin : In f st := by
            intro s hs'
            have ⟨j, hj, he⟩ := List.getElem_of_mem (hp.mem_iff.2 hs')
            have a1 : (sorted st)[0]'(by omega) ≤ (sorted st)[j] := by
              by_cases h : j = 0
              · subst h; exact Int.le_refl _
              · exact List.pairwise_iff_getElem.1 hso 0 j (by omega) hj (by omega)
            have a2 : (sorted st)[j] ≤ (sorted st)[(sorted st).length - 1]'(by omega) := by
              by_cases h : j = (sorted st).length - 1
              · subst h; exact Int.le_refl _
              · exact List.pairwise_iff_getElem.1 hso j _ hj (by omega) (by omega)
            omega
          have hcn := compact_nodup hso
          have hnd : (sorted st).Nodup ↔ st.Nodup := hp.nodup_iff
          have hle := compact_len (sorted st)
          by_cases hd : st.Nodup
          · have := hcn.2 (hnd.2 hd)
            rw [decide_eq_false (by omega), cond_false, e107 v hin hs hf', bnd_s, decide_eq_true (show Good f st from ⟨hin, hd⟩), cond_true]
            cases decide (f.cap < loadF f st)
            · rw [cond_false, cond_false]
            · rw [cond_true, cond_true]
          · have : (Lib.compact (sorted st)).length ≠ (sorted st).length := fun h => hd (hnd.1 (hcn.1 h))
            rw [decide_eq_true (by omega), cond_true, decide_eq_false fun hg : Good f st => hd hg.2, cond_false]
  · rw [decide_eq_true hc, cond_true, cond_true]
end Go.Proofs.Ytdhhimfcjoclfaa
