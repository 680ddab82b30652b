/- Closed facts of a program's tables, as the walks take them; small steps between them; no program is named here. -/
import Derived.Test.YtdhhimfcjoclfaaKF
set_option linter.unusedVariables false
set_option linter.unusedSimpArgs false
namespace Go.K
open Go
def aggOf (P : Program) (t : TypeId) : Option Bool :=
  match P.underlying t with
  | some (.struct _) | some (.array _ _) => some true
  | some _ => some false
  | none => none
theorem mkTy {P : Program} {t : TypeId} {agg : Bool} {s bytes : Nat} {z : List Value} (h : (P.info? t).map (fun i => (i.zero, i.size, i.bytes)) = some (some (if agg then .agg z.toArray else z.headD undef), s, bytes))
    (hu : aggOf P t = some agg) (hl : z.length = s) (h1 : (agg || s == 1) = true) : TyI P t agg s bytes z := by
  obtain ⟨i, hi, hz⟩ := Option.map_eq_some_iff.1 h
  simp only [Prod.mk.injEq] at hz
  refine ⟨⟨i, hi, hz.1, hz.2.1, hz.2.2⟩, ?_, hl, fun ha => by subst ha; simpa using h1⟩
  cases hd : P.underlying t with
  | none => simp [aggOf, hd] at hu
  | some u => cases u <;> simp_all [aggOf]
def fldOf (P : Program) (t : TypeId) (i : Nat) : Option (Nat × Nat) :=
  match P.underlying t with
  | some (.struct fs) => (fs[i]?).bind fun f => (P.info? f.type).map fun j => (f.offset, j.size)
  | _ => none
theorem mkFld {P : Program} {t : TypeId} {i off k : Nat} (h : fldOf P t i = some (off, k + 1)) : FldI P t i off := by
  unfold fldOf at h
  cases hd : P.underlying t with
  | none => simp [hd] at h
  | some u =>
    cases u with
    | struct fs =>
      simp only [hd] at h
      obtain ⟨f, hf, h⟩ := Option.bind_eq_some_iff.1 h
      obtain ⟨j, hj, h⟩ := Option.map_eq_some_iff.1 h
      simp only [Prod.mk.injEq] at h
      exact ⟨fs, f, j, hd, hf, h.1, hj, by omega⟩
    | _ => simp [hd] at h
def stOf (P : Program) (t : TypeId) : Option (List (Nat × Nat)) :=
  match P.underlying t with
  | some (.struct fs) => fs.toList.mapM fun f => (P.info? f.type).map fun j => (f.offset, j.size)
  | _ => none
theorem mkSt {P : Program} {t : TypeId} {pl : List (Nat × Nat)} (h : stOf P t = some pl) : StI P t pl := by
  unfold stOf at h
  cases hd : P.underlying t with
  | none => simp [hd] at h
  | some u =>
    cases u with
    | struct fs =>
      simp only [hd] at h
      refine ⟨fs, hd, ?_⟩
      have key : ∀ (l : List Field) (pl : List (Nat × Nat)), (l.mapM (m := Option) fun f => (P.info? f.type).map fun j => (f.offset, j.size)) = some pl →
          ∃ is : List TypeInfo, l.map (fun f => P.info? f.type) = is.map some ∧ (l.zip is).map (fun p => (p.1.offset, p.2.size)) = pl := by
        intro l
        induction l with
        | nil => intro pl h; simp at h; subst h; exact ⟨[], rfl, rfl⟩
        | cons f l ih =>
          intro pl h
          simp only [List.mapM_cons] at h
          cases hi : P.info? f.type with
          | none => simp [hi] at h
          | some j =>
            cases hm : (l.mapM (m := Option) fun f => (P.info? f.type).map fun j => (f.offset, j.size)) with
            | none => simp [hi, hm] at h
            | some pl' =>
              simp [hi, hm] at h
              obtain ⟨is, h1, h2⟩ := ih pl' hm
              exact ⟨j :: is, by simp [h1, hi], by simp [h2, ← h]⟩
      exact key fs.toList pl h
    | _ => simp [hd] at h
theorem mkEnt {P : Program} {k : FuncId} (h : (P.funcs[k]?).map (fun fn => (fn.name == "runtime.NumGoroutine", fn.body.isNone)) = some (false, false)) : Ent P k := by
  obtain ⟨fn, h1, h2⟩ := Option.map_eq_some_iff.1 h
  simp only [Prod.mk.injEq] at h2
  exact ⟨fn, h1, h2.1, h2.2⟩
section
variable {P : Program} {r : Option Nat} {n : NF} {ops : Array Oper} {K : Fr → World → Prop} {rest : List Oper} {f : Fr} {w : World} {m : Mem} {L : List Atom}
  {d : Option Nat} {op : Op} {ty : TypeId} {pos : String} {af : Array Edge} {Q : FPost} {cs : List Code}
theorem wl_h {v : Value} (hS : Held w m L) (h : RunV P (fun w => Held w m L) ⟨d, op, ty, pos, af, none⟩ (ev n f) v) (k : wl P r n ops K rest (updo f d v) w) : wl P r n ops K (⟨d, op, ty, pos, af, none⟩ :: rest) f w := wl_run (h w hS) k
theorem q_norm {id : Nat} {N : NF → Fr → World → Prop} (h : N n f w) : blkQ id N Q .normal n f w := h
theorem q_loop {N : Fr → World → Prop} (h : N f w) : loopQ (fun n' f w => n' = n ∧ N f w) Q .normal n f w := ⟨rfl, h⟩
theorem q_loopN {N : NF → Fr → World → Prop} (h : N n f w) : loopQ N Q .normal n f w := h
theorem q_loopx {id : Nat} {N : NF → Fr → World → Prop} (h : Q (.exit id) n f w) : loopQ N Q (.exit id) n f w := h
theorem q_retb {id : Nat} {N : NF → Fr → World → Prop} (h : Q .ret n f w) : blkQ id N Q .ret n f w := h
theorem q_retl {N : NF → Fr → World → Prop} (h : Q .ret n f w) : loopQ N Q .ret n f w := h
theorem c_true {x : Operand} {a b : Code} (hx : ev n f x = .bool true) (h : wpc P r n Q (a :: cs) f w) : wpc P r n Q (.cond x a b :: cs) f w := c_cond hx (fun _ => h) (fun h => by cases h)
theorem c_false {x : Operand} {a b : Code} (hx : ev n f x = .bool false) (h : wpc P r n Q (b :: cs) f w) : wpc P r n Q (.cond x a b :: cs) f w := c_cond hx (fun h => by cases h) (fun _ => h)
theorem r_box {t tb : TypeId} {x : Operand} {agg : Bool} {s bytes k b o : Nat} {z cs' : List Value} {v : Value} {L : List Atom} {ρ : Operand → Value} {g : Option (Nat × Bool)} (ht : TyI P t agg s bytes z) (ho : Own L (.box b tb cs')) (hx : ρ x = .pointer (some ⟨b, o, none⟩)) (hk : o = 0 + k) (hl : Nat.ble (k + s) cs'.length = true)
    (hv : sub agg k s cs' = v) : RunV P (fun w => Held w m L) ⟨d, .load t x, ty, pos, af, g⟩ ρ v :=
  r_load ht (k := k) (by rw [hx, hk]) (fun w hw => box_at (hw.own ho)) (Nat.le_of_ble_eq_true hl) hv
theorem r_imm {t : TypeId} {x : Operand} {agg : Bool} {s bytes k b o o' : Nat} {z cs' : List Value} {v : Value} {L : List Atom} {ρ : Operand → Value} {g : Option (Nat × Bool)} (ht : TyI P t agg s bytes z) (hi : Imm m b o cs') (hx : ρ x = .pointer (some ⟨b, o', none⟩)) (hk : o' = o + k) (hl : Nat.ble (k + s) cs'.length = true)
    (hv : sub agg k s cs' = v) : RunV P (fun w => Held w m L) ⟨d, .load t x, ty, pos, af, g⟩ ρ v :=
  r_load ht (k := k) (by rw [hx, hk]) (fun w hw => hi.at hw) (Nat.le_of_ble_eq_true hl) hv
theorem d_split {S : World → Prop} {fuel : Nat} {listed : Array Bool} {t : Nat} {c : Bool} (hv : f t = .bool c) (ht : c = true → wlH P r n ops K S fuel listed (upd f t (.bool true)) w) (hf : c = false → wlH P r n ops K S fuel listed (upd f t (.bool false)) w) :
    wlH P r n ops K S fuel listed f w := by
  cases c with
  | true => exact fr_know (G := fun f => wlH P r n ops K S fuel listed f w) hv (ht rfl)
  | false => exact fr_know (G := fun f => wlH P r n ops K S fuel listed f w) hv (hf rfl)
theorem St.back {m' : Mem} (h : St w m' L) (hm : m ≤ m') : St w m L :=
  { imm := fun b o e => h.imm b o (hm.blk b o e), ok := h.ok, sep := fun A hA b hb => by
      cases e : m.blk b with
      | none => rfl
      | some o => have := hm.blk b o e; rw [h.sep A hA b hb] at this; cases this
    dis := h.dis, os := h.os.trans hm.os, tape := h.tape.trans hm.tape, output := h.output.trans hm.output }
theorem St.front {A : Atom} {L1 : List Atom} (h : St w m L) (hd : Drop L A L1) : St w m (A :: L1) := by
  have hp : L.Perm (A :: L1) := by
    clear h
    induction hd with
    | here => exact .refl _
    | there hd ih => exact (ih.cons _).trans (.swap _ _ _)
  exact { imm := h.imm, ok := fun B hB => h.ok B (hp.mem_iff.2 hB), sep := fun B hB => h.sep B (hp.mem_iff.2 hB), dis := (hp.pairwise_iff Apart.symm).1 h.dis, os := h.os, tape := h.tape, output := h.output }
theorem St.nilRow (h : St w m L) (e : TypeId) (s : Nat) : St w m (.row (.slice none 0 0) e s [] :: L) :=
  { imm := h.imm, ok := fun A hA => by
      cases hA with
      | head => exact ⟨0, World.ownsRow_nil w 0 e s⟩
      | tail _ hA => exact h.ok A hA,
    sep := fun A hA b hb => by
      cases hA with
      | head => simp [Atom.blk] at hb
      | tail _ hA => exact h.sep A hA b hb,
    dis := List.pairwise_cons.2 ⟨fun B hB b hb => by simp [Atom.blk] at hb, h.dis⟩, os := h.os, tape := h.tape, output := h.output }
end
def RCs {α : Type} (s : Nat) (R : Mem → List Value → α → Prop) (m : Mem) (cs : List Value) (xs : List α) : Prop :=
  cs.length = xs.length * s ∧ ∀ i x, xs[i]? = some x → R m ((cs.drop (i * s)).take s) x
def AllOne {α : Type} (R : Mem → List Value → α → Prop) : Prop := ∀ m cs x, R m cs x → allOne cs = true
theorem RInt.one : AllOne RInt := fun _ _ _ h => by rw [h]; rfl
theorem RS.one {α : Type} {s : Nat} {R : Mem → List Value → α → Prop} : AllOne (RS s R) := fun _ _ _ ⟨_, _, _, h, _⟩ => by rw [h]; rfl
theorem RCs.mono {α : Type} {s : Nat} {R : Mem → List Value → α → Prop} (hR : Mono R) {m m' : Mem} {cs : List Value} {xs : List α} (h : RCs s R m cs xs) (hm : m ≤ m') : RCs s R m' cs xs :=
  ⟨h.1, fun i x hx => hR _ _ _ _ (h.2 i x hx) hm⟩
theorem RCs.nil {α : Type} {s : Nat} {R : Mem → List Value → α → Prop} {m : Mem} : RCs s R m [] ([] : List α) := ⟨by simp, fun i x h => by simp at h⟩
theorem RCs.append {α : Type} {s : Nat} {R : Mem → List Value → α → Prop} {m : Mem} {cs ds : List Value} {xs ys : List α} (h : RCs s R m cs xs) (k : RCs s R m ds ys) : RCs s R m (cs ++ ds) (xs ++ ys) := by
  refine ⟨by simp [h.1, k.1, Nat.add_mul], fun i x hx => ?_⟩
  by_cases hi : i < xs.length
  · rw [List.getElem?_append_left hi] at hx
    have hle : i * s + s ≤ cs.length := by rw [h.1, ← Nat.succ_mul]; exact Nat.mul_le_mul_right _ hi
    have := h.2 i x hx
    rwa [List.drop_append_of_le_length (by omega), List.take_append_of_le_length (by simp; omega)]
  · rw [List.getElem?_append_right (by omega)] at hx
    have := k.2 _ x hx
    have he : i * s = cs.length + (i - xs.length) * s := by rw [h.1, ← Nat.add_mul]; congr 1; omega
    rw [he, List.drop_append, List.drop_of_length_le (by omega), List.nil_append, Nat.add_sub_cancel_left]
    exact this
theorem RCs.single {α : Type} {s : Nat} {R : Mem → List Value → α → Prop} {m : Mem} {cs : List Value} {x : α} (hl : cs.length = s) (h : R m cs x) : RCs s R m cs [x] := by
  refine ⟨by simp [hl], fun i y hy => ?_⟩
  have : i = 0 := by
    cases i with
    | zero => rfl
    | succ i => simp at hy
  subst this
  simp at hy
  subst hy
  rw [Nat.zero_mul, List.drop_zero, List.take_of_length_le (by omega)]
  exact h
theorem RCs.set {α : Type} {s : Nat} {R : Mem → List Value → α → Prop} {m : Mem} {cs vs : List Value} {xs : List α} {y : α} {i : Nat} (h : RCs s R m cs xs) (hi : i < xs.length) (hl : vs.length = s) (hv : R m vs y) : RCs s R m (spl cs (i * s) vs) (xs.set i y) := by
  have hle : i * s + s ≤ cs.length := by rw [h.1, ← Nat.succ_mul]; exact Nat.mul_le_mul_right _ hi
  refine ⟨by rw [spl_length (by omega), h.1, List.length_set], fun j x hx => ?_⟩
  by_cases hj : j = i
  · subst hj
    rw [List.getElem?_set_self hi] at hx
    cases hx
    have : ((spl cs (j * s) vs).drop (j * s)).take s = vs := by
      simp only [spl]
      rw [List.drop_append_of_le_length (by simp; omega)]
      rw [List.drop_of_length_le (by simp; omega), List.nil_append, List.take_append_of_le_length (by omega), List.take_of_length_le (by omega)]
    rwa [this]
  · rw [List.getElem?_set_ne (Ne.symm hj)] at hx
    have hj' : j < xs.length := (List.getElem?_eq_some_iff.1 hx).1
    have := h.2 j x hx
    have hle' : j * s + s ≤ cs.length := by rw [h.1, ← Nat.succ_mul]; exact Nat.mul_le_mul_right _ hj'
    have he : ((spl cs (i * s) vs).drop (j * s)).take s = (cs.drop (j * s)).take s := by
      apply List.ext_getElem?
      intro q
      simp only [List.getElem?_take, List.getElem?_drop]
      split
      · rename_i hq
        have hne : j * s + q < i * s ∨ i * s + s ≤ j * s + q := by
          rcases Nat.lt_or_ge j i with h1 | h1
          · left; have : (j + 1) * s ≤ i * s := Nat.mul_le_mul_right _ h1; rw [Nat.succ_mul] at this; omega
          · right; have : (i + 1) * s ≤ j * s := Nat.mul_le_mul_right _ (by omega); rw [Nat.succ_mul] at this; omega
        simp only [spl, List.getElem?_append, List.length_take, List.getElem?_take, List.getElem?_drop]
        clear this
        generalize i * s = p at *
        generalize j * s = r at *
        rcases hne with h1 | h1
        · simp [h1, show r + q < min p cs.length by omega]
        · have h2 : ¬ r + q < min p cs.length := by omega
          have h3 : min p cs.length = p := by omega
          have h4 : ¬ r + q - p < vs.length := by omega
          simp only [h2, if_false, h3, h4]
          rw [if_neg (by omega)]
          congr 1
          omega
      · rfl
    rwa [he]
theorem RCs.take {α : Type} {s : Nat} {R : Mem → List Value → α → Prop} {m : Mem} {cs : List Value} {xs : List α} (h : RCs s R m cs xs) (k : Nat) (hk : k ≤ xs.length) : RCs s R m (cs.take (k * s)) (xs.take k) := by
  have hle : k * s ≤ cs.length := by rw [h.1]; exact Nat.mul_le_mul_right _ hk
  refine ⟨by simp; rw [Nat.min_eq_left hle, Nat.min_eq_left hk], fun i x hx => ?_⟩
  rw [List.getElem?_take] at hx
  split at hx
  · rename_i hi
    have := h.2 i x hx
    have h1 : (i + 1) * s ≤ k * s := Nat.mul_le_mul_right _ hi
    rw [Nat.succ_mul] at h1
    rwa [List.drop_take, List.take_take, Nat.min_eq_left (by omega)]
  · cases hx
theorem RCs_int {m : Mem} {cs : List Value} {xs : List Int} (h : RCs 1 RInt m cs xs) : cs = nums xs := by
  apply List.ext_getElem?
  intro i
  have h1 : cs.length = xs.length := by have := h.1; omega
  cases hx : xs[i]? with
  | none => rw [List.getElem?_eq_none (by have := List.getElem?_eq_none_iff.1 hx; omega)]; simp [nums, hx]
  | some x =>
    have := h.2 i x hx
    have he : (cs.drop (i * 1)).take 1 = [.int .i64 x] := this
    have h2 := congrArg (·[0]?) he
    simp [List.getElem?_take] at h2
    simp [nums, hx, h2]
theorem RCs_nums {m : Mem} (xs : List Int) : RCs 1 RInt m (nums xs) xs := by
  refine ⟨by simp [nums], fun i x hx => ?_⟩
  obtain ⟨hi, he⟩ := List.getElem?_eq_some_iff.1 hx
  show _ = _
  apply List.ext_getElem?
  intro j
  cases j with
  | zero => simp [nums, hx, List.getElem?_take]
  | succ j => simp [List.getElem?_take]
theorem RCs.allOne {α : Type} {s : Nat} {R : Mem → List Value → α → Prop} (h1 : AllOne R) (hs : 0 < s) {m : Mem} {cs : List Value} {xs : List α} (h : RCs s R m cs xs) : allOne cs = true := by
  refine List.all_eq_true.2 fun v hv => ?_
  obtain ⟨i, hi, rfl⟩ := List.mem_iff_getElem.1 hv
  have hq : i / s < xs.length := by rw [Nat.div_lt_iff_lt_mul hs]; rw [← h.1]; exact hi
  have hr := h.2 (i / s) _ (List.getElem?_eq_getElem hq)
  have ha := allOne_mem (h1 _ _ _ hr)
  refine ha _ ?_
  have hd := Nat.div_add_mod i s
  have hm := Nat.mod_lt i hs
  rw [Nat.mul_comm] at hd
  refine List.mem_iff_getElem?.2 ⟨i % s, ?_⟩
  rw [List.getElem?_take, if_pos hm, List.getElem?_drop, hd, List.getElem?_eq_getElem hi]
theorem RSl.cells {α : Type} {s : Nat} {R : Mem → List Value → α → Prop} (h1 : AllOne R) (hs : 0 < s) {m : Mem} {a : Option Addr} {n c : Nat} {xs : List α} (h : RSl s R m a n c xs) {w : World} {L : List Atom} (hH : Held w m L) :
    ∃ src, Src w s a n src ∧ RCs s R m src xs := by
  rcases Nat.eq_zero_or_pos n with h0 | h0
  · subst h0
    have : xs = [] := List.eq_nil_of_length_eq_zero h.1
    subst this
    exact ⟨[], ⟨by simp, rfl, .inl rfl⟩, .nil⟩
  · obtain ⟨b, o, rfl, hh⟩ := h.2.2.2 h0
    -- cell by cell
    have hcell : ∀ i, i < n * s → ∃ v, w.cell? ⟨b, o + i, none⟩ = some v := by
      intro i hi
      have hq : i / s < xs.length := by rw [Nat.div_lt_iff_lt_mul hs, h.1]; exact hi
      obtain ⟨cs, hl, hI, hR⟩ := hh _ _ (List.getElem?_eq_getElem hq)
      have hm := Nat.mod_lt i hs
      have hd := Nat.div_add_mod i s
      rw [Nat.mul_comm] at hd
      have hc := hI.at hH (i % s) _ (List.getElem?_eq_getElem (by omega))
      rw [add_none, Nat.add_assoc, hd] at hc
      exact ⟨_, hc⟩
    have hsrc : ∀ k, k ≤ n * s → ∃ src : List Value, src.length = k ∧ ∀ i v, src[i]? = some v → w.cell? ⟨b, o + i, none⟩ = some v := by
      intro k
      induction k with
      | zero => exact fun _ => ⟨[], rfl, fun i v h => by simp at h⟩
      | succ k ih =>
        intro hk
        obtain ⟨src, hl, hc⟩ := ih (by omega)
        obtain ⟨v, hv⟩ := hcell k (by omega)
        refine ⟨src ++ [v], by simp [hl], fun i u hu => ?_⟩
        by_cases hi : i < src.length
        · rw [List.getElem?_append_left hi] at hu; exact hc i u hu
        · rw [List.getElem?_append_right (by omega)] at hu
          have : i = k := by
            rcases Nat.lt_or_ge (i - src.length) 1 with h | h
            · omega
            · rw [List.getElem?_eq_none (by simpa using h)] at hu; cases hu
          subst this
          simp [hl] at hu
          subst hu
          exact hv
    obtain ⟨src, hl, hc⟩ := hsrc (n * s) (Nat.le_refl _)
    have hrc : RCs s R m src xs := by
      refine ⟨by rw [hl, h.1], fun i x hx => ?_⟩
      obtain ⟨cs, h2, hI, hR⟩ := hh i x hx
      have hi : i < n := by have := (List.getElem?_eq_some_iff.1 hx).1; have := h.1; omega
      have hle : (i + 1) * s ≤ n * s := Nat.mul_le_mul_right _ hi
      rw [Nat.succ_mul] at hle
      have : (src.drop (i * s)).take s = cs := by
        apply List.ext_getElem?
        intro q
        rw [List.getElem?_take, List.getElem?_drop]
        split
        · rename_i hq
          have e1 := hc (i * s + q) _ (List.getElem?_eq_getElem (by omega))
          have e2 := hI.at hH q _ (List.getElem?_eq_getElem (by omega))
          rw [add_none, Nat.add_assoc] at e2
          rw [e1] at e2
          rw [List.getElem?_eq_getElem (by omega), List.getElem?_eq_getElem (by omega)]
          exact e2
        · rw [List.getElem?_eq_none (by omega)]
      rwa [this]
    exact ⟨src, ⟨hl, hrc.allOne h1 hs, .inr ⟨_, rfl, fun i v hv => by rw [add_none]; exact hc i v hv⟩⟩, hrc⟩
theorem RSl_of {α : Type} {s : Nat} {R : Mem → List Value → α → Prop} {m : Mem} {a : Option Addr} {n c : Nat} {xs : List α} {cs : List Value} (hr : RCs s R m cs xs) (hl : xs.length = n) (hn : n ≤ 9223372036854775807) (hc : n ≤ c) (h : 0 < n → ∃ b, a = some ⟨b, 0, none⟩ ∧ Imm m b 0 cs) : RSl s R m a n c xs := by
  refine ⟨hl, hn, hc, fun h0 => ?_⟩
  obtain ⟨b, rfl, arr, e, fr, h1, h2⟩ := h h0
  refine ⟨b, 0, rfl, fun i x hx => ?_⟩
  have hi : i < xs.length := (List.getElem?_eq_some_iff.1 hx).1
  have hle : (i + 1) * s ≤ xs.length * s := Nat.mul_le_mul_right _ hi
  rw [Nat.succ_mul, ← hr.1] at hle
  refine ⟨(cs.drop (i * s)).take s, by simp; omega, ⟨arr, e, fr, h1, fun j v hv => ?_⟩, hr.2 i x hx⟩
  rw [List.getElem?_take] at hv
  split at hv
  · rw [List.getElem?_drop] at hv
    have := h2 _ v hv
    simpa [Nat.add_assoc] using this
  · cases hv
section
variable {P : Program} {r : Option Nat} {n : NF} {ops : Array Oper} {K : Fr → World → Prop} {rest : List Oper} {f : Fr} {w : World} {m : Mem} {L : List Atom}
  {d : Option Nat} {ty : TypeId} {pos : String} {af : Array Edge}
theorem r_row {t e : TypeId} {x : Operand} {agg : Bool} {s bytes k b o nn c i se : Nat} {z cs : List Value} {v : Value} {L : List Atom} {ρ : Operand → Value} {g : Option (Nat × Bool)} (ht : TyI P t agg s bytes z) (ho : Own L (.row (.slice (some ⟨b, 0, none⟩) nn c) e se cs))
    (hx : ρ x = .pointer (some ⟨b, o, none⟩)) (hk : o = 0 + i * se + k) (hi : i * se + se ≤ cs.length) {es : List Value} (hes : (cs.drop (i * se)).take se = es) (hl : Nat.ble (k + s) es.length = true) (hv : sub agg k s es = v) :
    RunV P (fun w => Held w m L) ⟨d, .load t x, ty, pos, af, g⟩ ρ v := fun w hw => by
  subst hes
  have h1 := (row_at (hw.own ho)).part (i * se) se
  exact r_load (S := fun w' => w' = w) ht (b := b) (o := 0 + i * se) (k := k) (by rw [hx, hk]) (fun w' e => by subst e; simpa using h1) (Nat.le_of_ble_eq_true hl) hv w rfl
theorem run_empty {t e : TypeId} {agg : Bool} {s bytes : Nat} {z : List Value} (hu : P.underlying t = some (.slice e)) (ht : TyI P e agg s bytes z) (w : World) :
    (Instr.buildSlice t 0 #[]).run P w = .ok (.slice (some ⟨w.heap.size, 0, none⟩) 0 0) (w.alloc (.cells #[] e)) := by
  simp [Instr.buildSlice, run_underlying hu, ht.run_sizeOf, Instr.fill, newRow, newObj, Sem.run]
  rw [show Array.range 0 = #[] from by simp [Array.range]]
  simp
theorem wl_emptySlice {t e : TypeId} {agg : Bool} {s bytes : Nat} {z : List Value} (hu : P.underlying t = some (.slice e)) (ht : TyI P e agg s bytes z) (hS : St w m L)
    (k : ∀ b w', St w' m (.row (.slice (some ⟨b, 0, none⟩) 0 0) e s [] :: L) → wl P r n ops K rest (updo f d (.slice (some ⟨b, 0, none⟩) 0 0)) w') : wl P r n ops K (⟨d, .buildSlice t 0 #[], ty, pos, af, none⟩ :: rest) f w := by
  refine wl_run (w' := w.alloc (.cells #[] e)) ?_ (k _ _ (by have := hS.row e s 0 [] (by simp) (by simp [maxLen]); simpa using this))
  simp only [execOp, List.map_toArray, List.map_nil, Sem.run_bind, Array.map_empty, run_empty hu ht, Result.andThen_ok, Sem.run_pure]
end
end Go.K
