/- Models that may fail: what a walk knows of its model at each step; rows that read as lists, element by element; no program is named here. -/
import Derived.Test.YtdhhimfcjoclfaaKH
set_option linter.unusedVariables false
set_option linter.unusedSimpArgs false
namespace Go.K
open Go
def ok64 (x : Int) : Bool := decide (-9223372036854775808 ≤ x) && decide (x ≤ 9223372036854775807)
theorem ok_lo {x : Int} (h : ok64 x = true) : -9223372036854775808 ≤ x := by simp [ok64] at h; exact h.1
theorem ok_hi {x : Int} (h : ok64 x = true) : x ≤ 9223372036854775807 := by simp [ok64] at h; exact h.2
theorem ok64_of {x : Int} (h : -9223372036854775808 ≤ x) (h' : x ≤ 9223372036854775807) : ok64 x = true := by simp [ok64, h, h']
def lim (n : Nat) : Bool := Nat.ble n 1000000000
theorem lim_le {n : Nat} (h : lim n = true) : n ≤ 1000000000 := Nat.le_of_ble_eq_true h
theorem lim_of {n : Nat} (h : n ≤ 1000000000) : lim n = true := Nat.ble_eq_true_of_le h
theorem lim_a {a b : Nat} (h : lim (a + b) = true) : a + b ≤ 140737488355328 := Nat.le_trans (lim_le h) (by decide)
theorem lim_b {a b k : Nat} (h : lim (a + b) = true) (hk : Nat.ble k 100000 = true) : (a + b) * k ≤ 140737488355328 :=
  Nat.le_trans (Nat.mul_le_mul (lim_le h) (Nat.le_of_ble_eq_true hk)) (by decide)
def chk {β : Type} (c : Bool) (A : Option β) : Option β := cond c A none
def getK {α β : Type} (xs : List α) (i : Int) (k : α → Option β) : Option β := cond (decide (0 ≤ i)) ((xs[i.toNat]?).elim none k) none
def bnd {α β : Type} (o : Option α) (k : α → Option β) : Option β := o.elim none k
section
variable {α β : Type} {A B : Option β} {c : Bool} {r : β}
theorem chk_ok (h : chk c A = some r) : c = true ∧ A = some r := by
  cases c with
  | true => exact ⟨rfl, h⟩
  | false => cases h
theorem chk_of (h : c = true) : chk c A = A := by subst h; rfl
theorem bif_t (h : c = true) (hM : cond c A B = some r) : A = some r := by subst h; exact hM
theorem bif_f (h : c = false) (hM : cond c A B = some r) : B = some r := by subst h; exact hM
theorem getK_ok {xs : List α} {i : Int} {k : α → Option β} (h : getK xs i k = some r) : ∃ x, xs[i.toNat]? = some x ∧ 0 ≤ i ∧ i < xs.length ∧ k x = some r := by
  unfold getK at h
  by_cases h0 : 0 ≤ i
  · rw [decide_eq_true h0] at h
    simp only [cond] at h
    cases hx : xs[i.toNat]? with
    | none => rw [hx] at h; cases h
    | some x =>
      rw [hx] at h
      have := (List.getElem?_eq_some_iff.1 hx).1
      exact ⟨x, rfl, h0, by omega, h⟩
  · rw [decide_eq_false h0] at h; cases h
theorem getK_of {xs : List α} {i : Int} {k : α → Option β} {x : α} (h0 : 0 ≤ i) (h : xs[i.toNat]? = some x) : getK xs i k = k x := by
  simp [getK, h0, h]
theorem bnd_ok {o : Option α} {k : α → Option β} (h : bnd o k = some r) : ∃ x, o = some x ∧ k x = some r := by
  cases o with
  | none => cases h
  | some x => exact ⟨x, rfl, h⟩
theorem bnd_of {o : Option α} {k : α → Option β} {x : α} (h : o = some x) : bnd o k = k x := by subst h; rfl
theorem none_ne {γ : Prop} (h : (none : Option β) = some r) : γ := by cases h
theorem some_eq {x : β} (h : some x = some r) : x = r := Option.some.inj h
end
def dv (a b : Int) : Bool := !decide (b = 0) && ok64 (a.tdiv b)
theorem dv_ne {a b : Int} (h : dv a b = true) : b ≠ 0 := by simp [dv] at h; exact h.1
def mk64 (l c : Int) : Bool := decide (0 ≤ l) && (decide (l ≤ c) && decide (c ≤ 1000000000))
theorem mk_0 {l c : Int} (h : mk64 l c = true) : 0 ≤ l := by simp [mk64] at h; exact h.1
theorem mk_1 {l c : Int} (h : mk64 l c = true) : l ≤ c := by simp [mk64] at h; exact h.2.1
theorem mk_3 {l c : Int} (h : mk64 l c = true) : c ≤ 9223372036854775807 := by simp [mk64] at h; omega
theorem mk_2 {l c : Int} {b : Nat} (h : mk64 l c = true) (hb : Nat.ble b 100000 = true) : (b : Int) * c ≤ 281474976710656 := by
  simp [mk64] at h
  have hb := Nat.le_of_ble_eq_true hb
  have h1 : (b : Int) * c ≤ 100000 * c := Int.mul_le_mul_of_nonneg_right (by omega) (by omega)
  omega
def upto (h : Int) (n : Nat) : Bool := decide (0 ≤ h) && Nat.ble h.toNat n
theorem upto_0 {h : Int} {n : Nat} (k : upto h n = true) : 0 ≤ h := by simp [upto] at k; exact k.1
theorem upto_n {h : Int} {n : Nat} (k : upto h n = true) : h.toNat ≤ n := by simp only [upto, Bool.and_eq_true] at k; exact Nat.le_of_ble_eq_true k.2
theorem upto_c {h : Int} {n c M : Nat} (k : upto h n = true) (hc : n ≤ c ∧ c ≤ M) : h ≤ c := by have := upto_n k; have := upto_0 k; omega
def nonempty {α : Type} (xs : List α) : Bool := !xs.isEmpty
theorem nonempty_get {α : Type} {xs : List α} (h : nonempty xs = true) : ∃ x, xs[(0 : Int).toNat]? = some x := by cases xs <;> simp_all [nonempty]
section
variable {P : Program} {S : World → Prop} {ρ : Operand → Value} {d : Option Nat} {ty : TypeId} {pos : String} {af : Array Edge} {g : Option (Nat × Bool)}
theorem r_remk {t t' : TypeId} {x y : Operand} {a b : Int} (hx : ρ x = .int .i64 a) (hy : ρ y = .int .i64 b) (hd : dv a b = true) :
    RunV P S ⟨d, .binOp .rem t x y t', ty, pos, af, g⟩ ρ (.int .i64 (a.tmod b)) := r_remt hx hy (dv_ne hd)
theorem r_negk {t : TypeId} {x : Operand} {a : Int} (hx : ρ x = .int .i64 a) (h : ok64 (-a) = true) :
    RunV P S ⟨d, .unOp .neg t x, ty, pos, af, g⟩ ρ (.int .i64 (-a)) := fun w _ => by
  simp [execOp, hx, Op.unary, Op.intArith, wrap_i64 (ok_lo h) (ok_hi h)]
end
def iand (a b : Int) : Int := IntKind.i64.wrap (BitVec.ofInt 64 a &&& BitVec.ofInt 64 b).toNat
def ior (a b : Int) : Int := IntKind.i64.wrap (BitVec.ofInt 64 a ||| BitVec.ofInt 64 b).toNat
def ixor (a b : Int) : Int := IntKind.i64.wrap (BitVec.ofInt 64 a ^^^ BitVec.ofInt 64 b).toNat
def ishl (a b : Int) : Int := IntKind.i64.wrap (a * 2 ^ (min b.toNat 64))
def ishr (a b : Int) : Int := a.fdiv (2 ^ (min b.toNat 64))
section
variable {P : Program} {S : World → Prop} {ρ : Operand → Value} {d : Option Nat} {ty : TypeId} {pos : String} {af : Array Edge} {g : Option (Nat × Bool)}
theorem r_and {t t' : TypeId} {x y : Operand} {a b : Int} (hx : ρ x = .int .i64 a) (hy : ρ y = .int .i64 b) :
    RunV P S ⟨d, .binOp .and t x y t', ty, pos, af, g⟩ ρ (.int .i64 (iand a b)) := fun w _ => by
  rw [run_bin hx hy]; rfl
theorem r_or {t t' : TypeId} {x y : Operand} {a b : Int} (hx : ρ x = .int .i64 a) (hy : ρ y = .int .i64 b) :
    RunV P S ⟨d, .binOp .or t x y t', ty, pos, af, g⟩ ρ (.int .i64 (ior a b)) := fun w _ => by
  rw [run_bin hx hy]; rfl
theorem r_xor {t t' : TypeId} {x y : Operand} {a b : Int} (hx : ρ x = .int .i64 a) (hy : ρ y = .int .i64 b) :
    RunV P S ⟨d, .binOp .xor t x y t', ty, pos, af, g⟩ ρ (.int .i64 (ixor a b)) := fun w _ => by
  rw [run_bin hx hy]; rfl
theorem r_shl {k : IntKind} {t t' : TypeId} {x y : Operand} {a b : Int} (hx : ρ x = .int .i64 a) (hy : ρ y = .int k b) (hb : decide (0 ≤ b) = true) :
    RunV P S ⟨d, .binOp .shl t x y t', ty, pos, af, g⟩ ρ (.int .i64 (ishl a b)) := fun w _ => by
  have h := of_decide_eq_true hb
  simp [execOp, hx, hy, eqGuard, binOp, Op.shift, ishl, IntKind.bits, Int.not_lt.2 h]
theorem r_shr {k : IntKind} {t t' : TypeId} {x y : Operand} {a b : Int} (hx : ρ x = .int .i64 a) (hy : ρ y = .int k b) (hb : decide (0 ≤ b) = true) :
    RunV P S ⟨d, .binOp .shr t x y t', ty, pos, af, g⟩ ρ (.int .i64 (ishr a b)) := fun w _ => by
  have h := of_decide_eq_true hb
  simp [execOp, hx, hy, eqGuard, binOp, Op.shift, ishr, IntKind.bits, Int.not_lt.2 h]
end
theorem RSl.elem_a {α : Type} {s : Nat} {R : Mem → List Value → α → Prop} {m : Mem} {a : Option Addr} {n c : Nat} {xs : List α} (h : RSl s R m a n c xs) {i : Int} {x : α} (hx : xs[i.toNat]? = some x) :
    ∃ b o, a = some ⟨b, o, none⟩ := by
  have := (List.getElem?_eq_some_iff.1 hx).1
  obtain ⟨b, o, e, _⟩ := h.2.2.2 (by have := h.1; omega)
  exact ⟨b, o, e⟩
theorem RSl.elem_at {α : Type} {s : Nat} {R : Mem → List Value → α → Prop} {m : Mem} {b o : Nat} {n c : Nat} {xs : List α} (h : RSl s R m (some ⟨b, o, none⟩) n c xs) {i : Int} {x : α} (hx : xs[i.toNat]? = some x) :
    ∃ cs, Imm m b (o + i.toNat * s) cs ∧ R m cs x := by
  have := (List.getElem?_eq_some_iff.1 hx).1
  obtain ⟨b', o', e, hh⟩ := h.2.2.2 (by have := h.1; omega)
  cases e
  obtain ⟨cs, h2, h3, h4⟩ := hh _ _ hx
  exact ⟨cs, h3, h4⟩
theorem RSl.lt {α : Type} {s : Nat} {R : Mem → List Value → α → Prop} {m : Mem} {a : Option Addr} {n c : Nat} {xs : List α} (h : RSl s R m a n c xs) {i : Int} (h1 : i < xs.length) : i < n := by have := h.1; omega
section
variable {α : Type} {s : Nat} {R : Mem → List Value → α → Prop} {m : Mem} {w : World} {e : TypeId} {a : Option Addr} {n c : Nat} {cs : List Value} {xs : List α}
theorem row_n (h : RowOk w (.slice a n c) e s cs) (hr : RCs s R m cs xs) (hs : 0 < s) : n = xs.length :=
  Nat.eq_of_mul_eq_mul_right hs ((row_len h).symm.trans hr.1)
theorem row_some (h : RowOk w (.slice a n c) e s cs) (hr : RCs s R m cs xs) (hs : 0 < s) {i : Int} (h0 : 0 ≤ i) (hi : i < xs.length) : ∃ b, a = some ⟨b, 0, none⟩ :=
  row_base h (by rw [row_n h hr hs]; omega)
theorem row_lt (h : RowOk w (.slice a n c) e s cs) (hr : RCs s R m cs xs) (hs : 0 < s) {i : Int} (hi : i < xs.length) : i < n := by rw [row_n h hr hs]; exact hi
theorem row_room (hr : RCs s R m cs xs) {i : Int} {x : α} (hx : xs[i.toNat]? = some x) : i.toNat * s + s ≤ cs.length := by
  have hq := (List.getElem?_eq_some_iff.1 hx).1
  rw [hr.1, ← Nat.succ_mul]; exact Nat.mul_le_mul_right _ hq
theorem row_read (hr : RCs s R m cs xs) {i : Int} {x : α} (hx : xs[i.toNat]? = some x) : ∃ es, (cs.drop (i.toNat * s)).take s = es ∧ R m es x := ⟨_, rfl, hr.2 _ _ hx⟩
theorem RCs.seti (hr : RCs s R m cs xs) {i : Int} {x y : α} (hx : xs[i.toNat]? = some x) {vs : List Value} (hl : vs.length = s) (hv : R m vs y) : RCs s R m (spl cs (0 + i.toNat * s) vs) (xs.set i.toNat y) := by
  rw [Nat.zero_add]; exact hr.set (List.getElem?_eq_some_iff.1 hx).1 hl hv
theorem spl_part {cs es vs : List Value} {p k s : Nat} (hes : (cs.drop p).take s = es) (hp : p + s ≤ cs.length) (hk : k + vs.length ≤ s) : spl cs (p + k) vs = spl cs p (spl es k vs) := by
  subst hes
  apply List.ext_getElem?
  intro j
  simp only [spl, List.getElem?_append, List.length_append, List.getElem?_take, List.length_take, List.length_drop, List.getElem?_drop, List.drop_drop]
  rcases Nat.lt_or_ge j p with h1 | h1
  · simp [show j < p + k by omega, show j < min (p + k) cs.length by omega, h1, show j < min p cs.length by omega]
  · have e1 : ¬ j < min p cs.length := by omega
    simp only [e1, if_false]
    have e2 : min p cs.length = p := by omega
    rw [e2]
    rcases Nat.lt_or_ge j (p + k) with h2 | h2
    · have e3 : j < min (p + k) cs.length := by omega
      have e4 : j - p < min k (min s (cs.length - p)) := by omega
      have e5 : j - p < min k (min s (cs.length - p)) + (vs.length + (min s (cs.length - p) - (k + vs.length))) := by omega
      simp only [e3, h2, if_true, e4, e5, show j - p < k by omega, show j - p < s by omega]
      congr 1; omega
    · have e3 : ¬ j < min (p + k) cs.length := by omega
      simp only [e3, if_false]
      have e4 : min (p + k) cs.length = p + k := by omega
      have e6 : min k (min s (cs.length - p)) = k := by omega
      rw [e4, e6]
      have e7 : min s (cs.length - p) = s := by omega
      rw [e7]
      rcases Nat.lt_or_ge (j - (p + k)) vs.length with h3 | h3
      · have e5 : j - p < k + (vs.length + (s - (k + vs.length))) := by omega
        have e8 : ¬ j - p < k := by omega
        simp only [h3, e5, e8, if_true, if_false, show j - p - k < vs.length by omega]
        congr 1; omega
      · have e9 : ¬ j - (p + k) < vs.length := by omega
        simp only [e9, if_false]
        rcases Nat.lt_or_ge (j - p) s with h4 | h4
        · have e5 : j - p < k + (vs.length + (s - (k + vs.length))) := by omega
          have e8 : ¬ j - p < k := by omega
          have e10 : ¬ j - p - k < vs.length := by omega
          simp only [e5, e8, e10, if_true, if_false, show k + vs.length + (j - p - k - vs.length) < s by omega]
          congr 1; omega
        · have e5 : ¬ j - p < k + (vs.length + (s - (k + vs.length))) := by omega
          simp only [e5, if_false]
          congr 1; omega
theorem RCs.setp (hr : RCs s R m cs xs) {i : Int} {x y : α} (hx : xs[i.toNat]? = some x) {es es' vs : List Value} {k : Nat} (hes : (cs.drop (i.toNat * s)).take s = es) (hk : k + vs.length ≤ s) (hs : spl es k vs = es') (hv : R m es' y) :
    RCs s R m (spl cs (0 + i.toNat * s + k) vs) (xs.set i.toNat y) := by
  have hroom := row_room hr hx
  have hq := spl_part (cs := cs) (vs := vs) (es := es) (p := 0 + i.toNat * s) (k := k) (by simpa using hes) (by omega) hk
  rw [hq, hs]
  refine hr.seti hx ?_ hv
  have hl : es.length = s := by subst hes; simp; omega
  subst hs
  rw [spl_length (by omega), hl]
theorem RCs.reps {z : List Value} {x : α} (hz : z.length = s) (hv : R m z x) (k : Nat) : RCs s R m (reps z k) (List.replicate k x) := by
  induction k with
  | zero => exact RCs.nil
  | succ k ih =>
    have h1 : Go.K.reps z (k + 1) = z ++ Go.K.reps z k := by simp [Go.K.reps, List.replicate_succ]
    have h2 : List.replicate (k + 1) x = [x] ++ List.replicate k x := rfl
    rw [h1, h2]
    exact (RCs.single hz hv).append ih
theorem RCs.cons {d : List Value} {x : α} (hl : d.length = s) (h : R m d x) (hr : RCs s R m cs xs) : RCs s R m (d ++ cs) (x :: xs) := (RCs.single hl h).append hr
end
theorem St.freezeR {α : Type} {s : Nat} {R : Mem → List Value → α → Prop} {m : Mem} {w : World} {e : TypeId} {a : Option Addr} {n c : Nat} {cs : List Value} {xs : List α} {L L' : List Atom}
    (h : St w m L) (hd : Drop L (.row (.slice a n c) e s cs) L') (hr : RCs s R m cs xs) (hR : Mono R) (hs : 0 < s) : ∃ m', m ≤ m' ∧ St w m' L' ∧ RSl s R m' a n c xs := by
  have hn := row_n (h.ok _ hd.mem) hr hs
  obtain ⟨m', hm, hS, hF, h63, hc⟩ := h.freeze_row hd
  exact ⟨m', hm, hS, RSl_of (hr.mono hR hm) hn.symm h63 (row_cap (h.ok _ hd.mem)).1 hF⟩
theorem St.lend {α : Type} {s : Nat} {R : Mem → List Value → α → Prop} {m : Mem} {w : World} {e : TypeId} {a : Option Addr} {n c : Nat} {cs : List Value} {xs : List α} {L L' : List Atom}
    (h : St w m L) (hd : Drop L (.row (.slice a n c) e s cs) L') (hr : RCs s R m cs xs) (hR : Mono R) (hs : 0 < s) :
    ∃ m', m ≤ m' ∧ St w m' L' ∧ RSl s R m' a n c xs ∧ ∀ w' L2, St w' m' L2 → St w' m (.row (.slice a n c) e s cs :: L2) := by
  have hok : RowOk w (.slice a n c) e s cs := h.ok _ hd.mem
  have hn := row_n hok hr hs
  have hcap := row_cap hok
  have hnn := row_nn hok
  rcases hnn.2 with ⟨h1, h2⟩ | ⟨g, cap, cur, h1, hg0, hg, h5, h6, h7, h8⟩
  · injection h1 with e1 e2 e3
    subst e1 e2 e3
    have hx : xs = [] := List.eq_nil_of_length_eq_zero hn.symm
    subst hx
    refine ⟨m, Mem.le_refl m, h.weaken hd.sub, RSl.nil, fun w' L2 h' => ?_⟩
    have hc : cs = [] := List.eq_nil_of_length_eq_zero (by have := hr.1; simpa using this)
    subst hc
    exact h'.nilRow e s
  · injection h1 with e1 e2 e3
    subst e1 e3
    have hb : (Atom.row (.slice (some ⟨g, 0, none⟩) n c) e s cs).blk = some g := rfl
    obtain ⟨hS, hle, hblk⟩ := h.freeze hd hb hg
    refine ⟨_, hle, hS, RSl_of (hr.mono hR hle) hn.symm (by have := hcap.1; have := hcap.2; simp only [maxLen] at this; omega) hcap.1 (fun _ => ⟨g, rfl, cur, e, (0, 0), hblk, fun i v hv => ?_⟩), fun w' L2 h' => ?_⟩
    · have hi := (List.getElem?_eq_some_iff.1 hv).1
      rw [← h8, List.getElem?_take] at hv
      split at hv
      · simpa using hv
      · cases hv
    · have hg' := h'.imm g _ hblk
      have hnone := h.sep _ hd.mem g hb
      refine { imm := fun b o hb' => h'.imm b o (hle.blk b o hb'), ok := ?_, sep := ?_, dis := ?_, os := h'.os, tape := h'.tape, output := h'.output }
      · intro B hB
        cases hB with
        | head => exact ⟨n, hnn.1, .inr ⟨g, c, cur, rfl, hg0, hg', h5, h6, h7, h8⟩⟩
        | tail _ hB => exact h'.ok B hB
      · intro B hB b hb'
        cases hB with
        | head => rw [hb] at hb'; cases hb'; exact hnone
        | tail _ hB =>
          have := h'.sep B hB b hb'
          cases hm : m.blk b with
          | none => rfl
          | some o => have h9 := hle.blk b o hm; rw [this] at h9; cases h9
      · refine List.pairwise_cons.2 ⟨fun B hB b hb' hb2 => ?_, h'.dis⟩
        rw [hb] at hb'; cases hb'
        have := h'.sep B hB g hb2
        rw [hblk] at this; cases this
def cutok (l h : Int) (n : Nat) : Bool := decide (0 ≤ l) && (decide (l ≤ h) && decide (h ≤ n))
theorem cut_0 {l h : Int} {n : Nat} (k : cutok l h n = true) : 0 ≤ l := by simp [cutok] at k; exact k.1
theorem cut_1 {l h : Int} {n : Nat} (k : cutok l h n = true) : l ≤ h := by simp [cutok] at k; exact k.2.1
theorem cut_2 {l h : Int} {n : Nat} (k : cutok l h n = true) : h ≤ n := by simp [cutok] at k; exact k.2.2
theorem RSl.cutI {α : Type} {s : Nat} {R : Mem → List Value → α → Prop} {m : Mem} {a : Option Addr} {n c : Nat} {xs : List α} (hr : RSl s R m a n c xs) {l h : Int} (k : cutok l h n = true) :
    RSl s R m (if c = l.toNat then a else a.map (·.add (l.toNat * s))) (h.toNat - l.toNat) (c - l.toNat) ((xs.take h.toNat).drop l.toNat) := by
  have h0 := cut_0 k; have h1 := cut_1 k; have h2 := cut_2 k
  exact hr.cut _ _ (by omega) (by omega)
theorem RSl.dropI {α : Type} {s : Nat} {R : Mem → List Value → α → Prop} {m : Mem} {a : Option Addr} {n c : Nat} {xs : List α} (hr : RSl s R m a n c xs) {l : Int} (k : cutok l n n = true) :
    RSl s R m (if c = l.toNat then a else a.map (·.add (l.toNat * s))) (n - l.toNat) (c - l.toNat) (xs.drop l.toNat) := by
  have := hr.cutI k
  rw [List.take_of_length_le (by have := hr.1; omega)] at this
  exact this
theorem yielded_undef {ops : Array Oper} {n : NF} {f : Fr} {j t : Nat} (hj : (ops[j]?).bind (·.dst) = some t) (hv : ev n f (.tmp t) = undef) : yielded ops (act n f).tmps j = none := by
  have h := congrFun (eval_act n f) (.tmp t)
  rw [hv] at h
  simp only [Act.eval] at h
  unfold yielded
  rw [hj]
  simp only [Option.bind_some]
  cases ht : (act n f).tmps[t]? with
  | none => rfl
  | some x => simp [Array.getD_eq_getD_getElem?, ht] at h; subst h; rfl
section
variable {P : Program} {r : Option Nat} {n : NF} {ops : Array Oper} {K : Fr → World → Prop} {rest : List Oper} {S : World → Prop} {fuel : Nat} {listed listed' : Array Bool} {f : Fr} {w : World} {m : Mem} {L : List Atom}
  {d : Option Nat} {op : Op} {ty : TypeId} {pos : String} {af : Array Edge}
theorem wl_none {j t : Nat} {b' : Bool} (hj' : dstOf ops.toList j = some t) (hv : ev n f (.tmp t) = undef) (k : wl P r n ops K rest (updo f d undef) w) :
    wl P r n ops K (⟨d, op, ty, pos, af, some (j, b')⟩ :: rest) f w := by
  have hj := dst_at hj'
  unfold wl at *
  have : Region.wanted ⟨d, op, ty, pos, af, some (j, b')⟩ (yielded ops (act n f).tmps) = false := by
    simp only [Region.wanted, yielded_undef hj hv]; rfl
  simp only [wpListIn, this, Bool.false_eq_true, if_false, put_act]
  exact ⟨fun _ _ => trivial, k⟩
end
theorem St.drew1 {w : World} {m : Mem} {L : List Atom} (h : St w m L) : St { w with drawn := w.drawn + 1 } m L := h.drew _
theorem Held.drew1 {w : World} {m : Mem} {L : List Atom} (h : Held w m L) : Held { w with drawn := w.drawn + 1 } m L := h.drew _
theorem c_drawJ {P : Program} {r : Option Nat} {n : NF} {f : Fr} {w : World} {Q : FPost} {cs : List Code} {id k : Nat} {l : List Oper} (K : Fr → World → Prop) (S : World → Prop) (hm : P.follows .mixedOrders = true) (hk : l.length = k)
    (h : wlH P r n l.toArray K S k (Array.replicate k false) f { w with drawn := w.drawn + 1 }) (hc : ∀ f w, K f w → wpc P r n Q cs f w) : wpc P r n Q (.region id l.toArray true :: cs) f w := by
  have h2 : wpc P r n (fun e n' f w => match e with | .normal => n' = n ∧ K f w | _ => False) [.region id l.toArray true] f w := c_draw S hm hk (by
    have e : (fun f w => wpc P r n (fun e n' f w => match e with | .normal => n' = n ∧ K f w | _ => False) [] f w) = K := by funext f w; simp [wpc, wpl]
    rw [e]; exact h)
  simp only [wpc, wpl] at *
  refine wpIn_mono h2 fun e a w hh => ?_
  obtain ⟨n', g, rfl, hg⟩ := hh
  cases e with
  | normal => obtain ⟨q1, q2⟩ := hg; subst q1; exact ⟨_, g, rfl, hc _ _ q2⟩
  | _ => exact hg.elim
def AnyM {α : Type} (R : Mem → List Value → α → Prop) : Prop := ∀ (m m' : Mem) (cs : List Value) (x : α), R m cs x → R m' cs x
theorem RInt.any : AnyM RInt := fun _ _ _ _ h => h
theorem RCs.move {α : Type} {s : Nat} {R : Mem → List Value → α → Prop} (hR : AnyM R) {m m' : Mem} {cs : List Value} {xs : List α} (h : RCs s R m cs xs) : RCs s R m' cs xs := ⟨h.1, fun i x hx => hR _ _ _ _ (h.2 i x hx)⟩
theorem Own.app {E L : List Atom} {A : Atom} (h : Own L A) : Own (E ++ L) A := by
  induction E with
  | nil => exact h
  | cons B E ih => exact .there ih
end Go.K
