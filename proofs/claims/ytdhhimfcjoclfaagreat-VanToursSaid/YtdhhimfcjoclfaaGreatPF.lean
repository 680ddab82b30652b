/- Plain law of VanTours, part 5: Least; the law. -/
import Derived.Test.YtdhhimfcjoclfaaGreatPE
set_option linter.unusedVariables false
set_option linter.unusedSimpArgs false
namespace Go.Proofs.YtdhhimfcjoclfaaGreat
open Go Go.K Go.V

def out (b : Option (List Int) × Int × Int) : Tour × Bool := (⟨b.1.getD [], b.2.1, b.2.2⟩, b.1.isSome)
theorem e75l {fuel : Nat} {f : Fleet} (v : Val f) {r : List (List Int)} {lv : Int} (h0 : 0 ≤ lv ∧ lv ≤ 1440) (hr : ∀ o ∈ r, In f o ∧ o.length ≤ 1000 ∧ o.length < fuel ∧ leaveF f f.start o = lv) (hl : r.length ≤ 20000000) (t : List (List Int)) :
    ∀ (i k : Nat) (b : Option (List Int) × Int × Int), r.drop i = t → t.length < k → mg75_l0 fuel f r k b.1.isSome i (b.1.getD []) b.2.1 b.2.2 = some (out (t.foldl (cand f lv [] lv 0) b)) := by
  induction t with
  | nil =>
    intro i k b hd hk
    match k, hk with
    | k + 1, _ => rw [mg75_l0, dec_n hd, cond_false]; rfl
  | cons o t ih =>
    intro i k b hd hk
    match k, hk with
    | k + 1, hk =>
      have ⟨h2, h3, h4⟩ := drop_c hd
      have ⟨g1, g2, g3, g4⟩ := hr o (List.mem_of_getElem? h3)
      have hk' : t.length < k := Nat.lt_of_succ_lt_succ hk
      have hi : i ≤ 1000000000 := by omega
      rw [mg75_l0, dec_c hd, cond_true, get_c hd, e69 v g1 g2 g3, bnd_s, get_c hd, g4, e70 v g1 g2 g3 h0.1 (by omega), bnd_s, get_c hd, chk_next hi, chk_next hi, show ((i : Int) + 1) = ((i + 1 : Nat) : Int) from rfl, List.foldl_cons]
      have hb := ih (i + 1) k b h4 hk'
      have hs := ih (i + 1) k (some o, lv, (go f o lv 0 []).2.1) h4 hk'
      have hs' : mg75_l0 fuel f r k true ((i + 1 : Nat) : Int) o lv (go f o lv 0 []).2.1 = some (out (t.foldl (cand f lv [] lv 0) (some o, lv, (go f o lv 0 []).2.1))) := hs
      have hc : cand f lv [] lv 0 b o = bif (go f o lv 0 []).2.2 && (b.1.isNone || decide ((go f o lv 0 []).2.1 < b.2.2)) then (some o, lv, (go f o lv 0 []).2.1) else b := rfl
      rw [hs', hb, hc]
      cases (go f o lv 0 []).2.2 with
      | false => rfl
      | true =>
        rw [cond_true, Bool.true_and]
        cases hn : b.1 with
        | none => rfl
        | some z =>
          rw [Option.isSome_some, Option.isNone_some, Bool.not_true, cond_false, Bool.false_or]
          cases decide ((go f o lv 0 []).2.1 < b.2.2) <;> rfl
def search (f : Fleet) (y : List Int) : Option (List Int) × Int × Int := (ords y.length y).foldl (cand f (leaveF f f.start y) [] (leaveF f f.start y) 0) (none, 0, 0)
theorem e75 {fuel m : Nat} {f : Fleet} (v : Val f) (hm : m < 256) (hi : In f (mem m)) (hc : loadF f (mem m) ≤ f.cap) (hf : 20000000 ≤ fuel) : mg75 fuel f m = some (out (search f (mem m))) := by
  have h8 := mem_len m
  have hnd := mem_nodup m
  have q := e115 (mem m).length fuel m [] hm rfl (by omega) (by simp; omega)
  have hid : (ords (mem m).length (mem m)).map (([] : List Int) ++ ·) = ords (mem m).length (mem m) := by
    have : (fun x : List Int => [] ++ x) = id := by funext x; rfl
    rw [this, List.map_id]
  rw [hid] at q
  have hp := ords_perm (mem m).length (mem m) hnd rfl
  have hl := ords_len (mem m).length (mem m) h8
  have h9 := pow8 h8
  rw [mg75, q, bnd_s]
  unfold search
  generalize hos : ords (mem m).length (mem m) = os at *
  have hb := leaveF_b v (mem m) f.start hi
  have hst := v.start
  match os, hos with
  | [], hos => exact absurd hos (ords_ne _ _ hnd rfl)
  | o :: os, hos =>
    have ho := hp o (.head _)
    have hin : ∀ o' ∈ o :: os, In f o' ∧ o'.length ≤ 1000 ∧ o'.length < fuel ∧ leaveF f f.start o' = leaveF f f.start (mem m) := fun o' h' => by
      have h1 := hp o' h'
      have h2 := h1.length_eq
      exact ⟨fun s hs => hi s (h1.mem_iff.1 hs), by omega, by omega, leaveF_perm h1 _⟩
    have h1 := hin o (.head _)
    have hg : ∀ {β : Type} (k : List Int → Option β), getK (o :: os) 0 k = k o := fun k => get_at (by omega) rfl k
    rw [hg, e109 v h1.1 h1.2.1 h1.2.2.1, bnd_s, loadF_perm ho, decide_eq_false (by omega), cond_false]
    exact e75l v (lv := leaveF f f.start (mem m)) ⟨by omega, by omega⟩ hin (by omega) (o :: os) 0 fuel (none, 0, 0) rfl (by omega)
def setN : List Int → Nat
  | [] => 0
  | s :: t => setN t + 2 ^ s.toNat
theorem setN_mem : ∀ t : List Int, (∀ s ∈ t, 0 ≤ s ∧ s < 8) → t.Nodup → setN t < 256 ∧ mem (setN t) = sorted t
  | [], _, _ => ⟨by decide, by decide⟩
  | s :: t, h, hn => by
    have hn' := List.nodup_cons.1 hn
    have ⟨h1, h2⟩ := setN_mem t (fun x hx => h x (.tail _ hx)) hn'.2
    have hs := h s (.head _)
    obtain ⟨q, rfl⟩ := Int.eq_ofNat_of_zero_le hs.1
    have hq : q < 8 := by omega
    have hb : (setN t).testBit q = false := by
      cases hb : (setN t).testBit q with
      | false => rfl
      | true =>
        have := (mem_mem hq).2 hb
        rw [h2] at this
        exact absurd ((sorted_perm t).mem_iff.1 this) hn'.1
    have h3 := (bits_at h1 hq).2.2.2 hb
    simp only [setN, Int.toNat_natCast]
    exact ⟨h3.1, by rw [h3.2, h2]; rfl⟩
theorem e25l {fuel : Nat} {f : Fleet} {st : List Int} (hi : ∀ s ∈ st, 0 ≤ s ∧ s < 8) (hs : st.length ≤ 1000) (ht : setN st < 256) {r : Tour × Bool} (hq : mg75 fuel f (setN st) = some r) (t : List Int) : ∀ (n k A : Nat), st.drop n = t → t.length < k → A + setN t = setN st →
    mg25_l0 fuel f st k A n = some (bif r.2 then (r.1, 0) else (⟨[], 0, 0⟩, 4)) := by
  induction t with
  | nil =>
    intro n k A hd hk hA
    match k, hk with
    | k + 1, _ =>
      have : A = setN st := by simpa [setN] using hA
      subst this
      rw [mg25_l0, dec_n hd, cond_false, hq, bnd_s]
      cases r.2 <;> rfl
  | cons s t ih =>
    intro n k A hd hk hA
    match k, hk with
    | k + 1, hk =>
      have ⟨h2, h3, h4⟩ := drop_c hd
      have hk' : t.length < k := Nat.lt_of_succ_lt_succ hk
      have hn : n ≤ 1000000000 := by omega
      have h5 := hi s (List.mem_of_getElem? h3)
      obtain ⟨q, rfl⟩ := Int.eq_ofNat_of_zero_le h5.1
      have hq' : q < 8 := by omega
      simp only [setN, Int.toNat_natCast] at hA
      have e := (bits_at (m := 0) (by decide) hq').2.1
      have hpos := Nat.two_pow_pos q
      rw [mg25_l0, dec_c hd, cond_true, get_c hd, chk_of (decide_eq_true h5.1), e, show (A : Int) + ((2 ^ q : Nat) : Int) = ((A + 2 ^ q : Nat) : Int) from rfl, chk_64 (by omega) (by omega), chk_next hn]
      exact ih (n + 1) k (A + 2 ^ q) h4 hk' (by omega)
theorem rest_nil (y : List Int) : rest y [] = y := List.filter_eq_self.2 fun x _ => by simp
theorem least_eq {fuel : Nat} {f : Fleet} (h : Fit f) (hf : 20000000 ≤ fuel) {st : List Int} (hs : st.length ≤ 1000) : ∃ r, mg24 fuel f st = some r ∧ mg25 fuel f st = some r := by
  rw [mg24, mg25, e65 h (by omega) hs (by omega), e68 h (by omega) hs (by omega), bnd_s, bnd_s]
  by_cases ha : askF f st = 0
  · have ⟨v, hg, hne, hc⟩ := ask_0 ha
    have v8 := v.n8
    have hb := leaveF_b v st f.start hg.1
    have hst := v.start
    have hp := sorted_perm st
    have hpl := hp.length_eq
    have hi8 : ∀ s ∈ st, 0 ≤ s ∧ s < 8 := fun s hs' => by have := hg.1 s hs'; omega
    have ⟨m1, m2⟩ := setN_mem st hi8 hg.2
    have hsi : In f (sorted st) := fun s hs' => hg.1 s (hp.mem_iff.1 hs')
    have hl8 : (sorted st).length ≤ 8 := by rw [← m2]; exact mem_len _
    have hlv := leaveF_perm (f := f) hp f.start
    have hlo := loadF_perm (f := f) hp
    have q := e75 (fuel := fuel) v m1 (by rw [m2]; exact hsi) (by rw [m2, hlo]; exact hc) hf
    rw [m2] at q
    have q2 : mg25_l0 fuel f st fuel 0 0 = _ := e25l (fuel := fuel) hi8 hs m1 q st 0 fuel 0 rfl (by omega) (by omega)
    have hpos : 0 < (sorted st).length := by
      cases st with
      | nil => exact absurd rfl hne
      | cons _ _ => rw [hpl]; simp
    have q3 := e110 v hsi (hp.nodup_iff.2 hg.2) (by omega) hpos (lv := leaveF f f.start (sorted st)) (sorted st).length fuel [] (leaveF f f.start (sorted st)) 0 (none, 0, 0) (by omega) (by rw [rest_nil]) (by simp) ⟨by omega, by omega⟩ (by rw [hlv]; omega) (by rw [hlv]; omega)
    rw [rest_nil] at q3
    have q4 : mg110 fuel 0 (leaveF f f.start (sorted st)) [] (sorted st) f.stops f.minutes f.cap f.start f.back none 0 0 (leaveF f f.start (sorted st)) = some ([], search f (sorted st)) := q3
    rw [decide_eq_false (by simpa using ha), cond_false, cond_false, e73 hs (by omega), bnd_s, mg72, e107 v hsi (by omega) (by omega), bnd_s, decide_eq_false (by rw [hlo]; omega), cond_false, e67 v hsi (by omega) (by omega), bnd_s, q4, bnd_s, bnd_s, q2]
    refine ⟨_, ?_, rfl⟩
    unfold out
    cases (search f (sorted st)).1.isSome <;> rfl
  · rw [decide_eq_true ha, cond_true, cond_true]
    exact ⟨_, rfl, rfl⟩

/-! ### Comparing and copying -/
theorem e23 {fuel : Nat} {l : List Int} (hs : l.length ≤ 1000) (hf : l.length < fuel) : mg23 fuel l l = some true := by
  have q : ∀ (t : List Int) (n k : Nat), l.drop n = t → t.length < k → mg23_l0 fuel l l k n = some true := by
    intro t
    induction t with
    | nil =>
      intro n k hd hk
      match k, hk with
      | k + 1, _ => rw [mg23_l0, dec_n hd, cond_false]
    | cons s t ih =>
      intro n k hd hk
      match k, hk with
      | k + 1, hk =>
        have ⟨h2, h3, h4⟩ := drop_c hd
        have hn : n ≤ 1000000000 := by omega
        rw [mg23_l0, dec_c hd, cond_true, get_c hd, get_c hd, decide_eq_false (by simp), cond_false, chk_next hn]
        exact ih (n + 1) k h4 (Nat.lt_of_succ_lt_succ hk)
  rw [mg23, decide_eq_false (by simp), cond_false]
  exact q l 0 fuel rfl hf
theorem e22 {fuel : Nat} {t : Tour} (hs : t.stops.length ≤ 1000) (hf : t.stops.length < fuel) : mg22 fuel t t = some true := by
  rw [mg22, e23 hs hf, bnd_s, cond_true, decide_eq_true rfl, decide_eq_true rfl, cond_true]
theorem e40 {fuel : Nat} {l : List (List Int)} (hs : l.length ≤ 1000) (hf : l.length < fuel) (hr : ∀ r ∈ l, r.length ≤ 1000 ∧ r.length < fuel) : mg40 fuel l l (mg77 fuel) = some true := by
  have q : ∀ (t : List (List Int)) (n k : Nat), l.drop n = t → t.length < k → mg40_l0 fuel l l (mg77 fuel) k n = some true := by
    intro t
    induction t with
    | nil =>
      intro n k hd hk
      match k, hk with
      | k + 1, _ => rw [mg40_l0, dec_n hd, cond_false]
    | cons s t ih =>
      intro n k hd hk
      match k, hk with
      | k + 1, hk =>
        have ⟨h2, h3, h4⟩ := drop_c hd
        have hn : n ≤ 1000000000 := by omega
        have hh := hr s (List.mem_of_getElem? h3)
        rw [mg40_l0, dec_c hd, cond_true, get_c hd, get_c hd, mg77, e23 hh.1 hh.2, bnd_s, bnd_s, Bool.not_true, cond_false, chk_next hn]
        exact ih (n + 1) k h4 (Nat.lt_of_succ_lt_succ hk)
  rw [mg40, decide_eq_false (by simp), cond_false]
  exact q l 0 fuel rfl hf
theorem e76 {fuel : Nat} {l : List Stop} (hs : l.length ≤ 1000) (hf : l.length < fuel) : mg76 fuel l l = some true := by
  have q : ∀ (t : List Stop) (n k : Nat), l.drop n = t → t.length < k → mg76_l0 fuel l l k n = some true := by
    intro t
    induction t with
    | nil =>
      intro n k hd hk
      match k, hk with
      | k + 1, _ => rw [mg76_l0, dec_n hd, cond_false]
    | cons s t ih =>
      intro n k hd hk
      match k, hk with
      | k + 1, hk =>
        have ⟨h2, h3, h4⟩ := drop_c hd
        have hn : n ≤ 1000000000 := by omega
        have hx : (decide (s.load = s.load) && (decide (s.ready = s.ready) && (decide (s.opn = s.opn) && (decide (s.close = s.close) && (decide (s.serve = s.serve) && true))))) = true := by simp
        rw [mg76_l0, dec_c hd, cond_true, get_c hd, get_c hd, hx, Bool.not_true, cond_false, chk_next hn]
        exact ih (n + 1) k h4 (Nat.lt_of_succ_lt_succ hk)
  rw [mg76, decide_eq_false (by simp), cond_false]
  exact q l 0 fuel rfl hf
theorem e28 {fuel : Nat} {f : Fleet} (h : Fit f) (hf : 20 < fuel) : mg28 fuel f f = some true := by
  have h1 := h.n
  have h2 := h.m
  rw [mg28, e76 (by omega) (by omega), bnd_s, cond_true, e40 (by omega) (by omega) fun r hr => by have := h.r r hr; omega, bnd_s, cond_true, decide_eq_true rfl, decide_eq_true rfl, decide_eq_true rfl, cond_true, cond_true]
theorem e37 {fuel : Nat} {l : List (List Int)} (hs : l.length ≤ 1000) (hf : l.length < fuel) (hr : ∀ r ∈ l, r.length ≤ 1000) : mg37 fuel l = some l := by
  have q : ∀ (t : List (List Int)) (n k : Nat), l.drop n = t → t.length < k → mg37_l0 fuel l k n (l.take n) = some l := by
    intro t
    induction t with
    | nil =>
      intro n k hd hk
      match k, hk with
      | k + 1, _ => rw [mg37_l0, dec_n hd, cond_false, List.take_of_length_le (drop_n hd)]
    | cons s t ih =>
      intro n k hd hk
      match k, hk with
      | k + 1, hk =>
        have ⟨h2, h3, h4⟩ := drop_c hd
        have hn : n ≤ 1000000000 := by omega
        have hh := hr s (List.mem_of_getElem? h3)
        have hl : (l.take n).length + 1 ≤ 1000000000 := by rw [List.length_take]; omega
        rw [mg37_l0, dec_c hd, cond_true, get_c hd, mg17, chk_lim (by omega), bnd_s, chk_lim hl, chk_next hn, List.nil_append, ← take_c hd]
        exact ih (n + 1) k h4 (Nat.lt_of_succ_lt_succ hk)
  rw [mg37]
  exact q l 0 fuel rfl hf
theorem e15 {fuel : Nat} {f : Fleet} (h : Fit f) (hf : 20 < fuel) : mg15 fuel f = some (f, f) := by
  have h1 := h.n
  have h2 := h.m
  have q : ∀ (t : List Stop) (n k : Nat), f.stops.drop n = t → t.length < k → mg15_l0 fuel f f.stops f.minutes f.minutes k n f.cap f.start f.back (f.stops.take n) = some (f, f) := by
    intro t
    induction t with
    | nil =>
      intro n k hd hk
      match k, hk with
      | k + 1, _ => rw [mg15_l0, dec_n hd, cond_false, List.take_of_length_le (drop_n hd)]
    | cons s t ih =>
      intro n k hd hk
      match k, hk with
      | k + 1, hk =>
        have ⟨h2, h3, h4⟩ := drop_c hd
        have hn : n ≤ 1000000000 := by omega
        have hl : (f.stops.take n).length + 1 ≤ 1000000000 := by rw [List.length_take]; omega
        rw [mg15_l0, dec_c hd, cond_true, get_c hd, chk_lim hl, chk_next hn, ← take_c hd]
        exact ih (n + 1) k h4 (Nat.lt_of_succ_lt_succ hk)
  rw [mg15, mg58, chk_lim (by omega), bnd_s, e37 (by omega) (by omega) (fun r hr => by have := h.r r hr; omega), bnd_s, bnd_s, List.nil_append]
  exact q f.stops 0 fuel rfl (by omega)
theorem drive_len {f : Fleet} {st : List Int} (hs : st.length ≤ 1000) : (driveF f st).1.stops.length ≤ 1000 ∧ (driveF f st).2.1.length ≤ 1000 := by
  have hg : ∀ (t : List Int) (a p : Int) (l : List Int), (go f t a p l).1.length ≤ l.length + t.length := by
    intro t
    induction t with
    | nil => intro a p l; simp [go]
    | cons s t ih =>
      intro a p l
      rw [go]
      cases decide ((S f s).close < a + M f p (s + 1))
      · have := ih (max (a + M f p (s + 1)) (S f s).opn + (S f s).serve) (s + 1) (l ++ [a + M f p (s + 1)])
        simp only [List.length_append, List.length_cons, List.length_nil] at this
        simp only [cond_false, List.length_cons]; omega
      · simp
  have := hg st (leaveF f f.start st) 0 []
  simp only [List.length_nil] at this
  unfold driveF
  cases decide (askF f st ≠ 0)
  · cases (go f st (leaveF f f.start st) 0 []).2.2
    · simp
    · simp only [cond_false, cond_true]; omega
  · simp
theorem cand_len {f : Fleet} {lv : Int} {n : Nat} (os : List (List Int)) (h : ∀ o ∈ os, o.length ≤ n) : ∀ b : Option (List Int) × Int × Int, (b.1.getD []).length ≤ n → ((os.foldl (cand f lv [] lv 0) b).1.getD []).length ≤ n := by
  induction os with
  | nil => intro b hb; exact hb
  | cons o os ih =>
    intro b hb
    rw [List.foldl_cons]
    refine ih (fun o' h' => h o' (.tail _ h')) _ ?_
    unfold cand step
    cases ((go f o lv 0 []).2.2 && (b.1.isNone || decide ((go f o lv 0 []).2.1 < b.2.2)))
    · exact hb
    · exact h o (.head _)
theorem least_len {fuel : Nat} {f : Fleet} (h : Fit f) (hf : 20000000 ≤ fuel) {st : List Int} (hs : st.length ≤ 1000) {r : Tour × Int} (hr : mg24 fuel f st = some r) : r.1.stops.length ≤ 1000 := by
  have ⟨r', h1, h2⟩ := least_eq h hf hs
  rw [hr] at h1
  cases h1
  rw [mg25, e68 h (by omega) hs (by omega), bnd_s] at h2
  by_cases ha : askF f st = 0
  · have ⟨v, hg, hne, hc⟩ := ask_0 ha
    have v8 := v.n8
    have hp := sorted_perm st
    have hi8 : ∀ s ∈ st, 0 ≤ s ∧ s < 8 := fun s hs' => by have := hg.1 s hs'; omega
    have ⟨m1, m2⟩ := setN_mem st hi8 hg.2
    have hsi : In f (sorted st) := fun s hs' => hg.1 s (hp.mem_iff.1 hs')
    have q := e75 (fuel := fuel) v m1 (by rw [m2]; exact hsi) (by rw [m2, loadF_perm hp]; exact hc) hf
    have q2 : mg25_l0 fuel f st fuel 0 0 = _ := e25l (fuel := fuel) hi8 hs m1 q st 0 fuel 0 rfl (by omega) (by omega)
    rw [decide_eq_false (by simpa using ha), cond_false, q2] at h2
    have hl : ((search f (mem (setN st))).1.getD []).length ≤ 1000 := by
      unfold search
      refine cand_len _ (fun o ho => ?_) _ (by simp)
      have := (ords_perm _ _ (mem_nodup (setN st)) rfl o ho).length_eq
      have := mem_len (setN st)
      omega
    cases ho : (out (search f (mem (setN st)))).2 with
    | true =>
      rw [ho, cond_true] at h2
      cases h2
      exact hl
    | false => rw [ho, cond_false] at h2; cases h2; simp
  · rw [decide_eq_true ha, cond_true] at h2
    cases h2; simp
theorem e7 {fuel : Nat} {f : Fleet} (h : Fit f) (hf : 20000000 ≤ fuel) {st : List Int} (hs : st.length ≤ 1000) : mg7 fuel f st = some true := by
  have ⟨a, a1, a2⟩ := least_eq h hf hs
  have hal := least_len h hf hs a1
  have ⟨c, c1, c2⟩ := slack_eq (fuel := fuel) h (by omega) hs
  have hd := drive_len (f := f) hs
  have q : ∀ (d n k : Nat) (l : List Int), n + d = (driveF f st).1.stops.length → l.length = (driveF f st).1.stops.length → d < k → mg7_l0 fuel f st (f, f) st (driveF f st) k n l = some true := by
    intro d
    induction d with
    | zero =>
      intro n k l hn hl hk
      match k, hk with
      | k + 1, _ =>
        rw [mg7_l0, decide_eq_false (by omega), cond_false]
        have a1' : mg24 fuel (⟨f.stops, f.minutes, f.cap, f.start, f.back⟩ : Fleet) st = some a := a1
        have a2' : mg25 fuel (⟨f.stops, f.minutes, f.cap, f.start, f.back⟩ : Fleet) st = some a := a2
        have c1' : mg26 fuel (⟨f.stops, f.minutes, f.cap, f.start, f.back⟩ : Fleet) st = some c := c1
        have c2' : mg27 fuel (⟨f.stops, f.minutes, f.cap, f.start, f.back⟩ : Fleet) st = some c := c2
        have k' : mg28 fuel (⟨f.stops, f.minutes, f.cap, f.start, f.back⟩ : Fleet) f = some true := e28 h (by omega)
        have t' : mg22 fuel (⟨a.1.stops, a.1.leave, a.1.fin⟩ : Tour) (⟨a.1.stops, a.1.leave, a.1.fin⟩ : Tour) = some true := e22 hal (show a.1.stops.length < fuel by omega)
        rw [a1', bnd_s, a2', bnd_s, t', bnd_s, Bool.not_true, cond_false, decide_eq_false (by simp), cond_false, c1', bnd_s, c2', bnd_s, decide_eq_true rfl, decide_eq_true rfl, cond_true, cond_true, k', bnd_s, cond_true, e23 hs (by omega), bnd_s]
    | succ d ih =>
      intro n k l hn hl hk
      match k, hk with
      | k + 1, hk =>
        have hn' : n ≤ 1000000000 := by omega
        have hlt : n < l.length := by omega
        have hg : ∀ {β : Type} (k : Int → Option β), getK l (n : Int) k = k l[n] := fun k => get_at (by omega) (by rw [Int.toNat_natCast, List.getElem?_eq_getElem hlt]) k
        rw [mg7_l0, decide_eq_true (by omega), cond_true, hg, chk_next hn']
        exact ih (n + 1) k _ (by omega) (by rw [List.length_set]; exact hl) (Nat.lt_of_succ_lt_succ hk)
  have b1 : mg18 fuel (⟨f.stops, f.minutes, f.cap, f.start, f.back⟩ : Fleet) = some (chkF f) := e18 h (by omega)
  have b2 : mg19 fuel (⟨f.stops, f.minutes, f.cap, f.start, f.back⟩ : Fleet) = some (chkF f) := e19 h (by omega)
  have b3 : mg20 fuel (⟨f.stops, f.minutes, f.cap, f.start, f.back⟩ : Fleet) st = some (driveF f st) := e20 h (by omega) hs (by omega)
  have b4 : mg21 fuel (⟨f.stops, f.minutes, f.cap, f.start, f.back⟩ : Fleet) st = some (driveF f st) := e21 h (by omega) hs (by omega)
  have t' : mg22 fuel (⟨(driveF f st).1.stops, (driveF f st).1.leave, (driveF f st).1.fin⟩ : Tour) (⟨(driveF f st).1.stops, (driveF f st).1.leave, (driveF f st).1.fin⟩ : Tour) = some true := e22 hd.1 (show (driveF f st).1.stops.length < fuel by omega)
  rw [mg7, e15 h (by omega), bnd_s, mg17, chk_lim (by omega), bnd_s, List.nil_append, b1, bnd_s, b2, bnd_s, decide_eq_false (by simp), cond_false, b3, bnd_s, b4, bnd_s, t', bnd_s, Bool.not_true, cond_false, e23 hd.2 (by omega), bnd_s, Bool.not_true, cond_false, decide_eq_false (by simp), cond_false]
  exact q (driveF f st).1.stops.length 0 fuel _ (by omega) rfl (by omega)
theorem awake_t : mg8 100000000 = some true := by kernel_rfl
theorem law (f : Fleet) (st : List Int) : mg3 100000000 f st = some true := by
  rw [mg3, mg6]
  by_cases h1 : 12 < f.stops.length
  · rw [decide_eq_true (by omega), cond_true, bnd_s, cond_true, awake_t]; rfl
  · rw [decide_eq_false (by omega), cond_false]
    by_cases h2 : 14 < f.minutes.length
    · rw [decide_eq_true (by omega), cond_true, bnd_s, cond_true, awake_t]; rfl
    · rw [decide_eq_false (by omega), cond_false, any9 (p := fun x => decide (14 < x.length)) (by omega) (by omega) fun x _ => by rw [mg16]; congr 1; exact decide_eq_decide.2 (by omega), bnd_s, bnd_s]
      cases h3 : f.minutes.any fun x => decide (14 < x.length) with
      | true => rw [cond_true, awake_t]; rfl
      | false =>
        have hfit : Fit f := ⟨by omega, by omega, fun r hr => by
          rw [List.any_eq_false] at h3
          have := h3 r hr
          simp at this; exact this⟩
        rw [cond_false]
        by_cases h4 : st.length = 8
        · rw [decide_eq_true (by omega), cond_true, awake_t]; rfl
        · rw [decide_eq_false (by omega), cond_false]
          by_cases h5 : 20 < st.length
          · rw [decide_eq_true (by omega), cond_true, awake_t]; rfl
          · rw [decide_eq_false (by omega), cond_false, e7 hfit (by decide) (by omega), bnd_s, cond_true, awake_t]; rfl
end Go.Proofs.YtdhhimfcjoclfaaGreat
