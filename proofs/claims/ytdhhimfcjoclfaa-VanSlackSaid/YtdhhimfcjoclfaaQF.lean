/- Plain law of VanSlack, part 2: stops that are ready later; the law. -/
import Derived.Test.YtdhhimfcjoclfaaQE
set_option linter.unusedVariables false
set_option linter.unusedSimpArgs false
namespace Go.Proofs.Ytdhhimfcjoclfaa
open Go Go.K Go.V

theorem chk_val {f : Fleet} (v : Val f) : chkF f = 0 := by
  have h1 : inb f.stops.length 1 8 = true := inb_iff.2 ⟨by have := v.n1; omega, by have := v.n8; omega⟩
  have h5 : f.stops.any (fun s => !stopOk s) = false := by
    rw [List.any_eq_false]
    intro s hs
    rw [v.stops s hs]; decide
  have h6 : decide (f.minutes.length ≠ f.stops.length + 1) = false := decide_eq_false (by have := v.len; omega)
  rw [chkF, h1, inb_iff.2 v.cap, inb_iff.2 v.start, inb_iff.2 v.back, h5, h6, v.rows]
  rfl
theorem ask_val {f : Fleet} {st : List Int} (v : Val f) (hg : Good f st) (hne : st ≠ []) (hc : loadF f st ≤ f.cap) : askF f st = 0 := by
  have h0 : st.length ≠ 0 := fun h => hne (List.length_eq_zero_iff.1 h)
  rw [askF, chk_val v, decide_eq_false (by simp), cond_false, decide_eq_false h0, cond_false, decide_eq_true hg, cond_true, decide_eq_false (by omega), cond_false]
def setR (f : Fleet) (s v : Int) : Fleet := ⟨f.stops.set s.toNat ⟨(S f s).load, v, (S f s).opn, (S f s).close, (S f s).serve⟩, f.minutes, f.cap, f.start, f.back⟩
theorem S_set (f : Fleet) (s v x : Int) : (S (setR f s v) x).load = (S f x).load ∧ (S (setR f s v) x).opn = (S f x).opn ∧ (S (setR f s v) x).close = (S f x).close ∧ (S (setR f s v) x).serve = (S f x).serve ∧ ((S (setR f s v) x).ready = (S f x).ready ∨ (S (setR f s v) x).ready = v) := by
  unfold S setR
  simp only [List.getElem?_set]
  by_cases h : s.toNat = x.toNat
  · rw [if_pos h]
    by_cases h2 : s.toNat < f.stops.length
    · rw [if_pos h2]
      unfold S
      rw [h]
      exact ⟨rfl, rfl, rfl, rfl, .inr rfl⟩
    · rw [if_neg h2, List.getElem?_eq_none (by omega)]
      exact ⟨rfl, rfl, rfl, rfl, .inl rfl⟩
  · rw [if_neg h]
    exact ⟨rfl, rfl, rfl, rfl, .inl rfl⟩
theorem S_self {f : Fleet} {s v : Int} (h0 : 0 ≤ s) (h1 : s < f.stops.length) : (S (setR f s v) s).ready = v := by
  unfold S setR
  simp only [List.getElem?_set, if_true]
  rw [if_pos (by omega)]
  rfl
theorem go_set (f : Fleet) (s v : Int) : ∀ (t : List Int) (a p : Int) (l : List Int), go (setR f s v) t a p l = go f t a p l
  | [], a, p, l => rfl
  | x :: t, a, p, l => by
    have h := S_set f s v x
    have hM : ∀ p q, M (setR f s v) p q = M f p q := fun _ _ => rfl
    rw [go, go, h.2.1, h.2.2.1, h.2.2.2.1, hM, go_set f s v t]
theorem load_set (f : Fleet) (s v : Int) : ∀ t : List Int, loadF (setR f s v) t = loadF f t
  | [] => rfl
  | x :: t => by rw [loadF, loadF, (S_set f s v x).1, load_set f s v t]
theorem val_set {f : Fleet} (hv : Val f) {s v : Int} (h0 : 0 ≤ s) (h1 : s < f.stops.length) (hr : 0 ≤ v ∧ v ≤ 1440) : Val (setR f s v) where
  n1 := by simp only [setR, List.length_set]; exact hv.n1
  n8 := by simp only [setR, List.length_set]; exact hv.n8
  cap := hv.cap
  start := hv.start
  back := hv.back
  stops := fun q hq => by
    rcases List.mem_or_eq_of_mem_set hq with h | h
    · exact hv.stops q h
    · have hb := hv.S_b h0 h1
      rw [h]
      simp only [stopOk, Bool.and_eq_true, inb_iff]
      exact ⟨hb.1, hr, hb.2.2.1, hb.2.2.2.1, hb.2.2.2.2⟩
  len := by simp only [setR, List.length_set]; exact hv.len
  rows := hv.rows
theorem leave_ge {f : Fleet} (v : Val f) : ∀ (st : List Int) (a s : Int), In f st → s ∈ st → (S f s).ready ≤ leaveF f a st
  | x :: t, a, s, hi, hs => by
    have hb := leaveF_b v t (max a (S f x).ready) fun y hy => hi y (.tail _ hy)
    rw [leaveF]
    rcases List.mem_cons.1 hs with rfl | h
    · have := hb.1; omega
    · exact leave_ge v t _ s (fun y hy => hi y (.tail _ hy)) h
theorem leave_le {f : Fleet} {v : Int} : ∀ (st : List Int) (a : Int), a ≤ v → (∀ s ∈ st, (S f s).ready ≤ v) → leaveF f a st ≤ v
  | [], a, h, _ => h
  | x :: t, a, h, hs => by
    rw [leaveF]
    exact leave_le t _ (by have := hs x (.head _); omega) fun s h' => hs s (.tail _ h')
theorem good_set {f : Fleet} {s v : Int} {st : List Int} (hg : Good f st) : Good (setR f s v) st := ⟨fun x hx => by simp only [setR, List.length_set]; exact hg.1 x hx, hg.2⟩
theorem fit_set {f : Fleet} {s v : Int} (h : Fit f) : Fit (setR f s v) := ⟨by simp only [setR, List.length_set]; exact h.n, h.m, h.r⟩
/-- A stop of a tour is ready later than the tour leaves: it leaves then. -/
theorem drive_set {f : Fleet} {st : List Int} {s v : Int} (ha : askF f st = 0) (hs : s ∈ st) (hv : leaveF f f.start st ≤ v) (hv' : v ≤ 1440) :
    askF (setR f s v) st = 0 ∧ leaveF (setR f s v) (setR f s v).start st = v ∧ driveF (setR f s v) st = (bif okAt f st v then (⟨st, v, (go f st v 0 []).2.1⟩, (go f st v 0 []).1, 0) else (⟨[], 0, 0⟩, [], 12)) := by
  have ⟨va, hg, hne, hc⟩ := ask_0 ha
  have hsi := hg.1 s hs
  have hb := leaveF_b va st f.start hg.1
  have hst := va.start
  have v' := val_set va hsi.1 hsi.2 (v := v) ⟨by omega, hv'⟩
  have ha' := ask_val v' (good_set hg) hne (by rw [load_set]; exact hc)
  have hl : leaveF (setR f s v) (setR f s v).start st = v := by
    apply Int.le_antisymm
    · refine leave_le st _ (by show f.start ≤ v; omega) fun x hx => ?_
      have := leave_ge va st f.start x hg.1 hx
      rcases (S_set f s v x).2.2.2.2 with h | h <;> omega
    · have := leave_ge v' st (setR f s v).start s (good_set hg).1 hs
      rwa [S_self hsi.1 hsi.2] at this
  refine ⟨ha', hl, ?_⟩
  rw [driveF, ha', decide_eq_false (by simp), cond_false, hl, go_set]
  rfl
theorem e12 {fuel : Nat} {f : Fleet} (h : Fit f) (hf : 2000 < fuel) {st : List Int} (hs : st.length ≤ 1000) (h0 : (driveF f st).2.2 = 0) : ∃ N : Nat, mg12 fuel f st = some ((N : Int), 0) ∧ askF f st = 0 ∧ driveF f st = (⟨st, leaveF f f.start st, (go f st (leaveF f f.start st) 0 []).2.1⟩, (go f st (leaveF f f.start st) 0 []).1, 0) ∧
    okAt f st (leaveF f f.start st + N) = true ∧ okAt f st (leaveF f f.start st + N + 1) = false ∧ leaveF f f.start st + N ≤ 1440 := by
  have ha : askF f st = 0 := by
    cases hd : decide (askF f st ≠ 0) with
    | true => rw [driveF, hd, cond_true] at h0; exact h0
    | false => simpa using hd
  have ⟨v, hg, hne, hc⟩ := ask_0 ha
  have hb := leaveF_b v st f.start hg.1
  have hst := v.start
  have hbk := v.back
  rw [mg12, e20 h (by omega) hs (by omega), bnd_s, decide_eq_false (by simpa using h0), cond_false]
  have hd : driveF f st = (bif (go f st (leaveF f f.start st) 0 []).2.2 then (⟨st, leaveF f f.start st, (go f st (leaveF f f.start st) 0 []).2.1⟩, (go f st (leaveF f f.start st) 0 []).1, 0) else (⟨[], 0, 0⟩, [], 12)) := by
    rw [driveF, decide_eq_false (by simpa using ha), cond_false]
  cases ho : (go f st (leaveF f f.start st) 0 []).2.2 with
  | false => rw [hd, ho, cond_false] at h0; cases h0
  | true =>
    rw [hd, ho, cond_true]
    have hlv : 0 ≤ leaveF f f.start st ∧ leaveF f f.start st ≤ 1440 := ⟨by omega, by omega⟩
    have ⟨N, n1, n2, n3⟩ := slack_at v hg.1 (x := leaveF f f.start st) (by omega) ho
    have hk := (go_mono v st (leaveF f f.start st + N) (leaveF f f.start st + N) 0 [] [] hg.1 ⟨by omega, by omega⟩ (by omega) (n2 N (by omega))).2
    refine ⟨N, e26l v hg.1 hs (by omega) hlv n1 n2 (n3 _ (by omega)) N 0 fuel (by omega) (by omega), ha, rfl, n2 N (by omega), ?_, by omega⟩
    have := n3 (N + 1) (by omega)
    rwa [show leaveF f f.start st + ((N + 1 : Nat) : Int) = leaveF f f.start st + N + 1 by omega] at this
theorem e12e {fuel : Nat} {f : Fleet} (h : Fit f) (hf : 2000 < fuel) {st : List Int} (hs : st.length ≤ 1000) (h0 : (driveF f st).2.2 ≠ 0) : mg12 fuel f st = some (0, (driveF f st).2.2) := by
  rw [mg12, e20 h (by omega) hs (by omega), bnd_s, decide_eq_true h0, cond_true]
theorem awake_t : mg11 100000000 = some true := by kernel_rfl
theorem loop_ok {f : Fleet} (h : Fit f) {out : List (List Int)} (hl : out.length ≤ 12) (hq : ∀ q ∈ out, q.length ≤ 12) (t : List (List Int)) : ∀ (x k : Nat), out.drop x = t → t.length < k → mg4_l0 100000000 f out k x = some true := by
  have hf : 2000 < 100000000 := by decide
  induction t with
  | nil =>
    intro x k hd hk
    match k, hk with
    | k + 1, _ => rw [mg4_l0, dec_n hd, cond_false, awake_t]; rfl
  | cons st t ih =>
    intro x k hd hk
    match k, hk with
    | k + 1, hk =>
      have ⟨h2, h3, h4⟩ := drop_c hd
      have hx : x ≤ 1000000000 := by omega
      have hs := hq st (List.mem_of_getElem? h3)
      have hi := ih (x + 1) k h4 (Nat.lt_of_succ_lt_succ hk)
      have hi' : mg4_l0 100000000 f out k ((x : Int) + 1) = some true := hi
      have b1 : mg10 100000000 (⟨f.stops, f.minutes, f.cap, f.start, f.back⟩ : Fleet) st = some (driveF f st) := e20 h (by omega) (by omega) (by omega)
      rw [mg4_l0, dec_c hd, cond_true, get_c hd, b1, bnd_s]
      by_cases h0 : (driveF f st).2.2 = 0
      · obtain ⟨N, n1, ha, hdr, ok1, ok2, hle⟩ := e12 h hf (by omega) h0
        have b2 : mg12 100000000 (⟨f.stops, f.minutes, f.cap, f.start, f.back⟩ : Fleet) st = some ((N : Int), 0) := n1
        have ⟨v, hg, hne, hc⟩ := ask_0 ha
        have hbb := leaveF_b v st f.start hg.1
        have hst := v.start
        rw [b2, bnd_s, hdr]
        dsimp only
        rw [decide_eq_false (by simp), cond_false, cond_false, decide_eq_false (by omega), cond_false, chk_64 (by omega) (by omega), decide_eq_false (by omega), cond_false, mg13, chk_lim (by have := h.n; omega), bnd_s]
        match st, hne with
        | s0 :: rest, _ =>
          have hs0 := hg.1 s0 (.head _)
          have hget : ∀ {β : Type} (q : Int → Option β), getK (s0 :: rest) 0 q = q s0 := fun q => get_at (by omega) rfl q
          have hgS : ∀ {β : Type} (q : Stop → Option β), getK (([] : List Stop) ++ f.stops) s0 q = q (S f s0) := fun q => gS hs0.1 hs0.2 q
          have d1 := drive_set ha (.head _) (s := s0) (v := leaveF f f.start (s0 :: rest) + N) (by omega) hle
          have b3 : mg10 100000000 (⟨(([] : List Stop) ++ f.stops).set s0.toNat (⟨(S f s0).load, leaveF f f.start (s0 :: rest) + N, (S f s0).opn, (S f s0).close, (S f s0).serve⟩ : Stop), f.minutes, f.cap, f.start, f.back⟩ : Fleet) (s0 :: rest) = some (driveF (setR f s0 (leaveF f f.start (s0 :: rest) + N)) (s0 :: rest)) := e20 (fit_set h) (by omega) (by omega) (by omega)
          rw [hget, chk_64 (by omega) (by omega), hgS, b3, bnd_s, d1.2.2, ok1, cond_true]
          dsimp only
          rw [decide_eq_false (by simp), cond_false, chk_64 (by omega) (by omega), decide_eq_false (by simp), cond_false, chk_64 (by omega) (by omega)]
          by_cases he : leaveF f f.start (s0 :: rest) + N = 1440
          · rw [decide_eq_true (by simpa using he), cond_true, chk_next hx]
            exact hi'
          · rw [decide_eq_false (by simpa using he), cond_false, hget]
            have hs1 : s0 < (setR f s0 (leaveF f f.start (s0 :: rest) + N)).stops.length := by simp only [setR, List.length_set]; exact hs0.2
            have hgS2 : ∀ {β : Type} (q : Stop → Option β), getK ((([] : List Stop) ++ f.stops).set s0.toNat (⟨(S f s0).load, leaveF f f.start (s0 :: rest) + N, (S f s0).opn, (S f s0).close, (S f s0).serve⟩ : Stop)) s0 q = q (S (setR f s0 (leaveF f f.start (s0 :: rest) + N)) s0) := fun q => gS (f := setR f s0 (leaveF f f.start (s0 :: rest) + N)) hs0.1 hs1 q
            have hself : (S (setR f s0 (leaveF f f.start (s0 :: rest) + N)) s0).ready = leaveF f f.start (s0 :: rest) + N := S_self hs0.1 hs0.2
            have d2 := drive_set d1.1 (.head _) (s := s0) (v := leaveF f f.start (s0 :: rest) + N + 1) (by rw [d1.2.1]; omega) (by omega)
            have hok : okAt (setR f s0 (leaveF f f.start (s0 :: rest) + N)) (s0 :: rest) (leaveF f f.start (s0 :: rest) + N + 1) = false := by
              unfold okAt; rw [go_set]; exact ok2
            rw [hok, cond_false] at d2
            have b4 := e20 (fuel := 100000000) (f := setR (setR f s0 (leaveF f f.start (s0 :: rest) + N)) s0 (leaveF f f.start (s0 :: rest) + N + 1)) (fit_set (fit_set h)) (by omega) (st := s0 :: rest) (by omega) (by omega)
            rw [d2.2.2] at b4
            rw [hgS2, hself, chk_64 (by omega) (by omega), hgS2]
            try dsimp only
            have b5 : mg10 100000000 (⟨((([] : List Stop) ++ f.stops).set s0.toNat (⟨(S f s0).load, leaveF f f.start (s0 :: rest) + N, (S f s0).opn, (S f s0).close, (S f s0).serve⟩ : Stop)).set s0.toNat (⟨(S (setR f s0 (leaveF f f.start (s0 :: rest) + N)) s0).load, leaveF f f.start (s0 :: rest) + N + 1, (S (setR f s0 (leaveF f f.start (s0 :: rest) + N)) s0).opn, (S (setR f s0 (leaveF f f.start (s0 :: rest) + N)) s0).close, (S (setR f s0 (leaveF f f.start (s0 :: rest) + N)) s0).serve⟩ : Stop), f.minutes, f.cap, f.start, f.back⟩ : Fleet) (s0 :: rest) = some (⟨[], 0, 0⟩, [], 12) := b4
            rw [b5, bnd_s, decide_eq_false (by simp), cond_false, chk_next hx]
            exact hi'
      · have b2 : mg12 100000000 (⟨f.stops, f.minutes, f.cap, f.start, f.back⟩ : Fleet) st = some (0, (driveF f st).2.2) := e12e h hf (by omega) h0
        rw [b2, bnd_s, decide_eq_false (by simp), cond_false, decide_eq_true h0, cond_true, chk_next hx]
        exact hi'
theorem law {l m : List Int} (hl : U8 l) (hm : U8 m) : mg4 100000000 l m = some true := by
  obtain ⟨f, e, h⟩ := made (fuel := 100000000) (by decide) hl
  have hn := h.n
  obtain ⟨out, e2, o1, o2⟩ := divided_ok (fuel := 100000000) (n := f.stops.length) (by omega) hm f.stops.length 0 100000000 0 [] (by omega) (by omega) (by simp) (by intro q hq; cases hq) (by omega) (by omega)
  have e2' : mg9_l0 100000000 ((f.stops.length : Nat) : Int) 100000000 0 m 0 [] = some out := e2
  rw [mg4, e, bnd_s, mg9, e2', bnd_s]
  exact loop_ok h o1 o2 out 0 100000000 rfl (by omega)
end Go.Proofs.Ytdhhimfcjoclfaa
