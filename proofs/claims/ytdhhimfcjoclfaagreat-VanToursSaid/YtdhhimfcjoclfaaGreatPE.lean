/- Plain law of VanTours, part 4: the least tour. -/
import Derived.Test.YtdhhimfcjoclfaaGreatPD
import Derived.KernelRfl
set_option linter.unusedVariables false
set_option linter.unusedSimpArgs false
namespace Go.Proofs.YtdhhimfcjoclfaaGreat
open Go Go.K Go.V

/-! ### Orders of a set, and bits -/
def ords : Nat → List Int → List (List Int)
  | 0, _ => [[]]
  | n + 1, rem => rem.flatMap fun s => (ords n (rem.filter fun x => decide (x ≠ s))).map (s :: ·)
theorem filter_ne_len {l : List Int} {s : Int} (hn : l.Nodup) (hs : s ∈ l) : (l.filter fun x => decide (x ≠ s)).length + 1 = l.length := by
  induction l with
  | nil => cases hs
  | cons a t ih =>
    have hn' := List.nodup_cons.1 hn
    by_cases h : a = s
    · subst h
      have e : t.filter (fun x => decide (x ≠ a)) = t := List.filter_eq_self.2 fun x hx => decide_eq_true fun e => hn'.1 (e ▸ hx)
      rw [List.filter_cons, if_neg (by simp), e]; rfl
    · rw [List.filter_cons, if_pos (by simpa using h)]
      simp only [List.length_cons]
      rw [ih hn'.2 ((List.mem_cons.1 hs).resolve_left fun e => h e.symm)]
theorem filter_nodup {l : List Int} {p : Int → Bool} (h : l.Nodup) : (l.filter p).Nodup := List.Sublist.nodup List.filter_sublist h
theorem ords_perm : ∀ (n : Nat) (rem : List Int), rem.Nodup → rem.length = n → ∀ o ∈ ords n rem, o.Perm rem
  | 0, rem, _, h, o, ho => by
    simp only [ords, List.mem_singleton] at ho
    subst ho
    rw [List.length_eq_zero_iff.1 h]
  | n + 1, rem, hn, h, o, ho => by
    simp only [ords, List.mem_flatMap, List.mem_map] at ho
    have ⟨s, hs, q, hq, e⟩ := ho
    subst e
    have hl := filter_ne_len hn hs
    have := ords_perm n _ (filter_nodup hn) (by omega) q hq
    refine (this.cons s).trans ?_
    clear this hq ho h q hl
    induction rem with
    | nil => cases hs
    | cons a t ih =>
      have hn' := List.nodup_cons.1 hn
      by_cases ha : a = s
      · subst ha
        have e : t.filter (fun x => decide (x ≠ a)) = t := List.filter_eq_self.2 fun x hx => decide_eq_true fun e => hn'.1 (e ▸ hx)
        rw [List.filter_cons, if_neg (by simp), e]
      · rw [List.filter_cons, if_pos (by simpa using ha)]
        exact (List.Perm.swap a s _).trans ((ih hn'.2 ((List.mem_cons.1 hs).resolve_left fun e => ha e.symm)).cons a)
theorem ords_ne : ∀ (n : Nat) (rem : List Int), rem.Nodup → rem.length = n → ords n rem ≠ []
  | 0, rem, _, _ => by simp [ords]
  | n + 1, [], _, h => by simp at h
  | n + 1, a :: t, hn, h => by
    have hl := filter_ne_len hn (List.mem_cons_self (a := a) (l := t))
    have := ords_ne n _ (filter_nodup (p := fun x => decide (x ≠ a)) hn) (by omega)
    simp only [ords, List.flatMap_cons]
    intro h0
    have h1 := (List.append_eq_nil_iff.1 h0).1
    rw [List.map_eq_nil_iff] at h1
    exact this h1
theorem ords_len : ∀ (n : Nat) (rem : List Int), rem.length ≤ 8 → (ords n rem).length ≤ 8 ^ n
  | 0, rem, _ => by simp [ords]
  | n + 1, rem, h => by
    simp only [ords, List.length_flatMap, List.length_map]
    have : ∀ l : List Int, (l.map fun s => (ords n (rem.filter fun x => decide (x ≠ s))).length).sum ≤ l.length * 8 ^ n := by
      intro l
      induction l with
      | nil => simp
      | cons a t ih =>
        have := ords_len n (rem.filter fun x => decide (x ≠ a)) (Nat.le_trans (List.length_filter_le _ _) h)
        simp only [List.map_cons, List.sum_cons, List.length_cons, Nat.succ_mul]
        omega
    refine Nat.le_trans (this rem) ?_
    rw [Nat.pow_succ, Nat.mul_comm]
    exact Nat.mul_le_mul_left _ h
def mem (m : Nat) : List Int := ([0, 1, 2, 3, 4, 5, 6, 7] : List Int).filter fun s => m.testBit s.toNat
def bits : Bool := (List.range 256).all fun m => (List.range 8).all fun s =>
  (decide (iand (ishr (m : Int) s) 1 = 1) == m.testBit s) && (decide (ishl 1 (s : Int) = ((2 ^ s : Nat) : Int)) &&
  (bif m.testBit s then decide (2 ^ s ≤ m) && decide (mem (m - 2 ^ s) = (mem m).filter fun x => decide (x ≠ (s : Int))) else decide (m + 2 ^ s < 256) && decide (mem (m + 2 ^ s) = ins s (mem m))))
theorem bits_t : bits = true := by kernel_rfl
theorem bits_at {m s : Nat} (hm : m < 256) (hs : s < 8) : (decide (iand (ishr (m : Int) s) 1 = 1) = m.testBit s) ∧ ishl 1 (s : Int) = ((2 ^ s : Nat) : Int) ∧ (m.testBit s = true → 2 ^ s ≤ m ∧ mem (m - 2 ^ s) = (mem m).filter fun x => decide (x ≠ (s : Int))) ∧ (m.testBit s = false → m + 2 ^ s < 256 ∧ mem (m + 2 ^ s) = ins s (mem m)) := by
  have h := bits_t
  unfold bits at h
  have h1 := List.all_eq_true.1 (List.all_eq_true.1 h m (List.mem_range.2 hm)) s (List.mem_range.2 hs)
  simp only [Bool.and_eq_true, beq_iff_eq, decide_eq_true_eq] at h1
  refine ⟨h1.1, h1.2.1, fun hb => ?_, fun hb => ?_⟩
  · have h2 := h1.2.2
    rw [hb, cond_true, Bool.and_eq_true, decide_eq_true_eq, decide_eq_true_eq] at h2
    exact h2
  · have h2 := h1.2.2
    rw [hb, cond_false, Bool.and_eq_true, decide_eq_true_eq, decide_eq_true_eq] at h2
    exact h2
theorem mem_mem {m s : Nat} (hs : s < 8) : (s : Int) ∈ mem m ↔ m.testBit s = true := by
  unfold mem
  rw [List.mem_filter, Int.toNat_natCast]
  refine ⟨fun h => h.2, fun h => ⟨?_, h⟩⟩
  simp only [List.mem_cons, List.mem_nil_iff, or_false]
  omega
theorem mem_len (m : Nat) : (mem m).length ≤ 8 := List.length_filter_le _ _
theorem mem_nodup (m : Nat) : (mem m).Nodup := filter_nodup (by decide)
theorem mem_zero {m : Nat} (hm : m < 256) (h : mem m = []) : m = 0 := by
  have hall : ((List.range 256).all fun m => bif (mem m).isEmpty then decide (m = 0) else true) = true := by kernel_rfl
  have := List.all_eq_true.1 hall m (List.mem_range.2 hm)
  rw [h] at this
  simpa using this
theorem pow8 {n : Nat} (h : n ≤ 8) : 8 ^ n ≤ 16777216 := Nat.le_trans (Nat.pow_le_pow_right (by decide) h) (by decide)
theorem e115l {fuel : Nat} {self : List Int → Int → Option (List (List Int))} {begin : List Int} {m n : Nat} (hm : m < 256) (hb : begin.length ≤ 100) (hn : n ≤ 8)
    (hself : ∀ s : Nat, s < 8 → m.testBit s = true → self (begin ++ [(s : Int)]) (((m - 2 ^ s : Nat) : Int)) = some ((ords n (mem (m - 2 ^ s))).map ((begin ++ [(s : Int)]) ++ ·))) :
    ∀ (d s k : Nat) (l : List (List Int)), s + d = 8 → d < k → l.length ≤ s * 16777216 →
    mg115_l0 fuel self begin m k s l = some (l ++ ((([0, 1, 2, 3, 4, 5, 6, 7] : List Int).drop s).filter fun s => m.testBit s.toNat).flatMap fun s => (ords n ((mem m).filter fun x => decide (x ≠ s))).map (begin ++ [s] ++ ·))
  | d, s, 0, l, _, hk, _ => by omega
  | 0, s, k + 1, l, hd, hk, hl => by
    have : s = 8 := by omega
    subst this
    rw [mg115_l0, decide_eq_false (by omega), cond_false]
    simp
  | d + 1, s, k + 1, l, hd, hk, hl => by
    have hs : s < 8 := by omega
    have hb' := bits_at hm hs
    have hdrop : (([0, 1, 2, 3, 4, 5, 6, 7] : List Int).drop s) = (s : Int) :: (([0, 1, 2, 3, 4, 5, 6, 7] : List Int).drop (s + 1)) := by
      have : ∀ s, s < 8 → (([0, 1, 2, 3, 4, 5, 6, 7] : List Int).drop s) = (s : Int) :: (([0, 1, 2, 3, 4, 5, 6, 7] : List Int).drop (s + 1)) := by decide
      exact this s hs
    have hsn : s ≤ 1000000000 := by omega
    have h0 : decide (0 ≤ (s : Int)) = true := decide_eq_true (by omega)
    rw [mg115_l0, decide_eq_true (by omega : (s : Int) < 8), cond_true, chk_of h0, hb'.1, hdrop, List.filter_cons, Int.toNat_natCast]
    cases ht : m.testBit s with
    | true =>
      have h2 := hb'.2.2.1 ht
      have hp : 2 ^ s ≤ 128 := Nat.le_trans (Nat.pow_le_pow_right (by decide) (show s ≤ 7 by omega)) (by decide)
      have e : (m : Int) - ((2 ^ s : Nat) : Int) = ((m - 2 ^ s : Nat) : Int) := by omega
      have hlen := ords_len n ((mem m).filter fun x => decide (x ≠ (s : Int))) (Nat.le_trans (List.length_filter_le _ _) (mem_len m))
      have h8 := pow8 hn
      have hq : m - 2 ^ s < 256 := Nat.lt_of_le_of_lt (Nat.sub_le _ _) hm
      rw [cond_true, chk_of h0, hb'.2.1, e, chk_64 (by omega) (by omega), mg71, chk_lim (by omega), bnd_s, List.nil_append, chk_lim (by omega), hself s hs ht, bnd_s, h2.2, chk_lim (by rw [List.length_map]; omega), chk_next hsn, show ((s : Int) + 1) = ((s + 1 : Nat) : Int) from rfl]
      rw [e115l hm hb hn hself d (s + 1) k _ (by omega) (by omega) (by rw [List.length_append, List.length_map]; omega)]
      rw [if_pos rfl, List.flatMap_cons, List.append_assoc]
    | false =>
      rw [cond_false, chk_next hsn, show ((s : Int) + 1) = ((s + 1 : Nat) : Int) from rfl]
      rw [e115l hm hb hn hself d (s + 1) k l (by omega) (by omega) (Nat.le_trans hl (Nat.mul_le_mul_right _ (Nat.le_succ s)))]
      rw [if_neg (by decide)]
theorem e115 : ∀ (n fuel m : Nat) (begin : List Int), m < 256 → (mem m).length = n → n + 20 ≤ fuel → begin.length + n ≤ 100 → mg115 fuel begin m = some ((ords n (mem m)).map (begin ++ ·))
  | n, 0, m, begin, hm, hl, hf, hb => by omega
  | 0, fuel + 1, m, begin, hm, hl, hf, hb => by
    have : m = 0 := mem_zero hm (List.length_eq_zero_iff.1 hl)
    subst this
    rw [mg115, decide_eq_true (by rfl), cond_true]
    simp [ords]
  | n + 1, fuel + 1, m, begin, hm, hl, hf, hb => by
    have h8 := mem_len m
    have hm0 : (m : Int) ≠ 0 := by
      intro h
      have : m = 0 := by omega
      subst this
      have : mem 0 = [] := by decide
      rw [this] at hl
      cases hl
    have q : mg115_l0 fuel (mg115 fuel) begin m fuel 0 [] = _ := e115l (fuel := fuel) (self := mg115 fuel) (begin := begin) (m := m) (n := n) hm (by omega) (by omega) (fun s hs ht => by
      have h2 := (bits_at hm hs).2.2.1 ht
      have hlen := filter_ne_len (mem_nodup m) ((mem_mem hs).2 ht)
      exact e115 n fuel (m - 2 ^ s) _ (Nat.lt_of_le_of_lt (Nat.sub_le _ _) hm) (by rw [h2.2]; omega) (by omega) (by simp; omega)) 8 0 fuel [] (by omega) (by omega) (by simp)
    rw [mg115, decide_eq_false hm0, cond_false, q]
    congr 1
    simp only [List.nil_append, ords, List.drop_zero, List.map_flatMap, List.map_map]
    unfold mem
    congr 1
    funext s
    congr 1
    funext o
    simp

/-! ### The search -/
def step (lv : Int) (b : Option (List Int) × Int × Int) (o : List Int) (c : Int × Bool) : Option (List Int) × Int × Int :=
  bif c.2 && (b.1.isNone || decide (c.1 < b.2.2)) then (some o, lv, c.1) else b
theorem go_acc (f : Fleet) : ∀ (t : List Int) (a p : Int) (l l' : List Int), (go f t a p l).2 = (go f t a p l').2
  | [], a, p, l, l' => rfl
  | s :: t, a, p, l, l' => by
    rw [go, go]
    cases decide ((S f s).close < a + M f p (s + 1)) with
    | true => rfl
    | false => exact go_acc f t _ _ _ _
theorem e111 {fuel : Nat} {l : List Int} {x : Int} (hs : l.length ≤ 1000) (hf : l.length < fuel) : mg111 fuel l x = some (decide (x ∈ l)) := by
  have q : ∀ (t : List Int) (n k : Nat), l.drop n = t → t.length < k → ∃ r : Int, mg130_l0 fuel l x k n = some r ∧ decide (0 ≤ r) = decide (x ∈ t) := by
    intro t
    induction t with
    | nil =>
      intro n k hd hk
      match k, hk with
      | k + 1, _ => exact ⟨-1, by rw [mg130_l0, dec_n hd, cond_false], by simp⟩
    | cons s t ih =>
      intro n k hd hk
      match k, hk with
      | k + 1, hk =>
        have ⟨h2, h3, h4⟩ := drop_c hd
        have hk' : t.length < k := Nat.lt_of_succ_lt_succ hk
        have hn : n ≤ 1000000000 := by omega
        have ⟨r, e1, e2⟩ := ih (n + 1) k h4 hk'
        rw [mg130_l0, dec_c hd, cond_true, get_c hd, chk_next hn, show ((n : Int) + 1) = ((n + 1 : Nat) : Int) from rfl, e1]
        by_cases hc : x = s
        · rw [decide_eq_true hc, cond_true]
          exact ⟨n, rfl, by rw [decide_eq_true (by omega : (0 : Int) ≤ n), decide_eq_true (by simp [hc])]⟩
        · rw [decide_eq_false hc, cond_false]
          exact ⟨r, rfl, by rw [e2]; exact decide_eq_decide.2 ⟨fun h => .tail _ h, fun h => (List.mem_cons.1 h).resolve_left hc⟩⟩
  have ⟨r, e1, e2⟩ := q l 0 fuel rfl hf
  have e1' : mg130_l0 fuel l x fuel 0 = some r := e1
  rw [mg111, mg130, e1', bnd_s, e2]
def cand (f : Fleet) (lv : Int) (now : List Int) (a p : Int) (b : Option (List Int) × Int × Int) (o : List Int) : Option (List Int) × Int × Int := step lv b (now ++ o) (go f o a p []).2
abbrev rest (y now : List Int) : List Int := y.filter fun x => !decide (x ∈ now)
theorem rest_snoc (y now : List Int) (s : Int) : rest y (now ++ [s]) = (rest y now).filter fun x => decide (x ≠ s) := by
  unfold rest
  rw [List.filter_filter]
  congr 1
  funext x
  by_cases h : x ∈ now <;> by_cases h' : x = s <;> simp [h, h']
theorem e110l {fuel : Nat} {f : Fleet} (v : Val f) {y : List Int} (hy : In f y) (h8 : y.length ≤ 1000) (hfu : y.length < fuel) {self : Int → Int → (List Int) → (List Int) → (List Stop) → (List (List Int)) → Int → Int → Int → (Option (List Int)) → Int → Int → Int → Option ((List Int) × (Option (List Int)) × Int × Int)}
    {now : List Int} {a p lv : Int} {n : Nat} (hp : At f p) (h0 : 0 ≤ a) (h1 : a ≤ 100000000) (hnow : now.length ≤ 999) (hnf : now.length < fuel)
    (hself : ∀ (s : Int) (b : Option (List Int) × Int × Int), s ∈ y → s ∉ now → a + M f p (s + 1) ≤ (S f s).close →
      self (s + 1) (max (a + M f p (s + 1)) (S f s).opn + (S f s).serve) (now ++ [s]) y f.stops f.minutes f.cap f.start f.back b.1 b.2.1 b.2.2 lv =
      some (now ++ [s], (ords n ((rest y now).filter fun x => decide (x ≠ s))).foldl (cand f lv (now ++ [s]) (max (a + M f p (s + 1)) (S f s).opn + (S f s).serve) (s + 1)) b)) (t : List Int) :
    ∀ (i k : Nat) (b : Option (List Int) × Int × Int), y.drop i = t → t.length < k →
    mg110_l0 fuel self p a y f.stops f.minutes f.cap f.start f.back lv k i b.1 b.2.1 b.2.2 now =
    some (now, ((rest t now).flatMap fun s => (ords n ((rest y now).filter fun x => decide (x ≠ s))).map (s :: ·)).foldl (cand f lv now a p) b) := by
  induction t with
  | nil =>
    intro i k b hd hk
    match k, hk with
    | k + 1, _ => rw [mg110_l0, dec_n hd, cond_false]; rfl
  | cons s t ih =>
    intro i k b hd hk
    match k, hk with
    | k + 1, hk =>
      have ⟨h2, h3, h4⟩ := drop_c hd
      have h5 := hy s (List.mem_of_getElem? h3)
      have hk' : t.length < k := Nat.lt_of_succ_lt_succ hk
      have hi : i ≤ 1000000000 := by omega
      have v8 := v.n8
      rw [mg110_l0, dec_c hd, cond_true, get_c hd, e111 (by omega) hnf, bnd_s]
      by_cases hc : s ∈ now
      · rw [decide_eq_true hc, cond_true, chk_next hi, show ((i : Int) + 1) = ((i + 1 : Nat) : Int) from rfl, ih (i + 1) k b h4 hk']
        rw [show rest (s :: t) now = rest t now by unfold rest; rw [List.filter_cons, if_neg (by simp [hc])]]
      · rw [decide_eq_false hc, cond_false]
        have e108' : mg108 fuel (⟨f.stops, f.minutes, f.cap, f.start, f.back⟩ : Fleet) p a s = _ := e108 (fuel := fuel) v hp h5 h0 (by omega)
        rw [e108', bnd_s]
        rw [show rest (s :: t) now = s :: rest t now by unfold rest; rw [List.filter_cons, if_pos (by simp [hc])], List.flatMap_cons, List.foldl_append, List.foldl_map]
        by_cases hw : a + M f p (s + 1) ≤ (S f s).close
        · have hnl : decide ((S f s).close < a + M f p (s + 1)) = false := decide_eq_false (by omega)
          rw [decide_eq_true hw, cond_true, chk_lim (by omega), chk_64 (by omega) (by omega), hself s b (List.mem_of_getElem? h3) hc hw, bnd_s]
          have hl1 : (((now ++ [s]).length : Nat) : Int) - 1 = (now.length : Int) := by simp
          rw [hl1, chk_64 (by omega) (by omega), chk_of (by simp [upto, Nat.ble_eq]), chk_next hi, show ((i : Int) + 1) = ((i + 1 : Nat) : Int) from rfl, Int.toNat_natCast, List.take_left, ih (i + 1) k _ h4 hk']
          have hF : (fun b' o => cand f lv now a p b' (s :: o)) = cand f lv (now ++ [s]) (max (a + M f p (s + 1)) (S f s).opn + (S f s).serve) (s + 1) := by
            funext b' o
            unfold cand
            rw [go, hnl, cond_false, go_acc f o _ _ ([] ++ [_]) [], List.append_assoc]
            rfl
          rw [hF]
        · have hnl : decide ((S f s).close < a + M f p (s + 1)) = true := decide_eq_true (by omega)
          rw [decide_eq_false hw, cond_false, chk_next hi, show ((i : Int) + 1) = ((i + 1 : Nat) : Int) from rfl, ih (i + 1) k b h4 hk']
          congr 3
          have : ∀ (os : List (List Int)), os.foldl (fun b' o => cand f lv now a p b' (s :: o)) b = b := by
            intro os
            induction os with
            | nil => rfl
            | cons o os ih2 =>
              rw [List.foldl_cons]
              have e : cand f lv now a p b (s :: o) = b := by unfold cand; rw [go, hnl]; rfl
              rw [e, ih2]
          exact (this _).symm
theorem e110 {f : Fleet} (v : Val f) {y : List Int} (hy : In f y) (hnd : y.Nodup) (h8 : y.length ≤ 20) (hne : 0 < y.length) {lv : Int} : ∀ (n fuel : Nat) (now : List Int) (a p : Int) (b : Option (List Int) × Int × Int),
    n + 40 ≤ fuel → (rest y now).length = n → now.length + n = y.length → At f p → 0 ≤ a → a + 3000 * (n + 1) ≤ 100000000 →
    mg110 fuel p a now y f.stops f.minutes f.cap f.start f.back b.1 b.2.1 b.2.2 lv = some (now, (ords n (rest y now)).foldl (cand f lv now a p) b)
  | n, 0, now, a, p, b, hf, _, _, _, _, _ => by omega
  | 0, fuel + 1, now, a, p, b, hf, hr, hl, hp, h0, h1 => by
    have hM := v.M_b hp.1 hp.2 (Int.le_refl 0) (by omega)
    have hlen := v.len
    rw [mg110, decide_eq_true (by omega), cond_true, gR hp.1 (by have := hp.2; omega), gM v hp.1 hp.2 (Int.le_refl 0) (by omega), chk_64 (by omega) (by omega), mg17, chk_lim (by omega), bnd_s, List.nil_append]
    have hne' : nonempty now = true := by
      cases now with
      | nil => simp at hl; omega
      | cons _ _ => rfl
    rw [chk_of hne']
    simp only [ords, List.foldl_cons, List.foldl_nil, cand, go, step, List.append_nil]
    cases decide (a + M f p 0 ≤ f.back)
    · rfl
    · cases hb : b.1.isNone
      · by_cases hlt : a + M f p 0 < b.2.2
        · simp [hlt]
        · simp [hlt]
      · rfl
  | n + 1, fuel + 1, now, a, p, b, hf, hr, hl, hp, h0, h1 => by
    rw [mg110, decide_eq_false (by omega), cond_false]
    have q : mg110_l0 fuel (mg110 fuel) p a y f.stops f.minutes f.cap f.start f.back lv fuel 0 b.1 b.2.1 b.2.2 now = _ := e110l (n := n) v hy (by omega) (by omega) hp h0 (by omega) (by omega) (by omega) (fun s b' hs hsn hw => by
      have h5 := hy s hs
      have h6 := v.S_b h5.1 h5.2
      have hM := v.M_b hp.1 hp.2 (show 0 ≤ s + 1 by omega) (by omega)
      have hsr : s ∈ rest y now := List.mem_filter.2 ⟨hs, by simp [hsn]⟩
      have hfl := filter_ne_len (l := rest y now) (filter_nodup hnd) hsr
      rw [← rest_snoc] at hfl ⊢
      exact e110 v hy hnd h8 hne n fuel (now ++ [s]) _ (s + 1) b' (by omega) (by omega) (by simp; omega) ⟨by omega, by omega⟩ (by omega) (by omega)) y 0 fuel b rfl (by omega)
    rw [q]
    rfl
end Go.Proofs.YtdhhimfcjoclfaaGreat
