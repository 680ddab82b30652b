/- Walking loaded Go code: slices that are made, appended to and cut; regions whose order is open; no program is named here. -/
import Derived.Test.YtdhhimfcjoclfaaKD
import Derived.Maps.AppendAt
set_option linter.unusedVariables false
set_option linter.unusedSimpArgs false
namespace Go.K
open Go
def reps (z : List Value) (k : Nat) : List Value := (List.replicate k z).flatten
theorem reps_length (z : List Value) (k : Nat) : (reps z k).length = k * z.length := by simp [reps]
theorem reps_getElem? (z : List Value) (hz : 0 < z.length) : ∀ (k i : Nat), i < k * z.length → (reps z k)[i]? = z[i % z.length]?
  | 0, i, h => by simp at h
  | k + 1, i, h => by
    simp only [reps, List.replicate_succ, List.flatten_cons]
    by_cases hi : i < z.length
    · rw [List.getElem?_append_left hi, Nat.mod_eq_of_lt hi]
    · rw [List.getElem?_append_right (by omega)]
      have := reps_getElem? z hz k (i - z.length) (by rw [Nat.succ_mul] at h; omega)
      simp only [reps] at this
      rw [this]
      congr 1
      exact (Nat.mod_eq_sub_mod (by omega)).symm
theorem made_reps (z : List Value) (hz : 0 < z.length) (k : Nat) : ((Array.range (k * z.length)).map (z.toArray[· % z.toArray.size]!)).toList = reps z k := by
  apply List.ext_getElem?
  intro i
  by_cases hi : i < k * z.length
  · rw [reps_getElem? z hz k i hi]
    have hm : i % z.length < z.length := Nat.mod_lt _ hz
    simp [List.getElem?_range, hi, hm]
  · rw [List.getElem?_eq_none (by simpa using hi), List.getElem?_eq_none (by rw [reps_length]; omega)]
def nums (xs : List Int) : List Value := xs.map fun x => .int .i64 x
theorem nums_length (xs : List Int) : (nums xs).length = xs.length := by simp [nums]
section
variable {P : Program} {r : Option Nat} {n : NF} {ops : Array Oper} {K : Fr → World → Prop} {rest : List Oper} {f : Fr} {w : World} {m : Mem} {L : List Atom}
  {d : Option Nat} {ty : TypeId} {pos : String} {af : Array Edge}
theorem zeroCells_eq {e : TypeId} {agg : Bool} {s bytes : Nat} {z : List Value} (ht : TyI P e agg s bytes z) (hz : allOne z = true) (hs0 : 0 < s) (k : Nat) :
    ((Array.range (k * s)).map ((pack agg z).cells[· % (pack agg z).cells.size]!)).toList = reps z k := by
  have hp := ht.pack_cells ht.len hz
  have hc : (pack agg z).cells = z.toArray := by apply Array.toList_inj.1; simpa using hp
  have hl := ht.len
  rw [hc, ← hl]
  exact made_reps z (by omega) k
theorem wl_buildSlice {t e : TypeId} {agg : Bool} {s bytes len : Nat} {z : List Value} (hu : P.underlying t = some (.slice e)) (ht : TyI P e agg s bytes z) (hz : allOne z = true) (hlen : 0 < len * s) (hlen' : len * s ≤ 16777216) (hS : St w m L)
    {parts : List (Nat × Operand)} {ps : List (Nat × List Value)} (h : parts.map (fun p => (p.1, (ev n f p.2).cells.toList)) = ps)
    (hok : okP ((List.range len).map fun i => (i * s, s)) (reps z len).length ps = true) {cs : List Value} (hc : fillP ((List.range len).map fun i => (i * s, s)) (reps z len) ps = cs) (hcl : cs.length = len * s) (hm : len ≤ maxLen)
    (k : ∀ b w', St w' m (.row (.slice (some ⟨b, 0, none⟩) len len) e s cs :: L) → wl P r n ops K rest (updo f d (.slice (some ⟨b, 0, none⟩) len len)) w') :
    wl P r n ops K (⟨d, .buildSlice t len parts.toArray, ty, pos, af, none⟩ :: rest) f w := by
  have hs0 : 0 < s := Nat.pos_of_mul_pos_left hlen
  refine wl_run (w' := w.alloc (.cells cs.toArray e)) ?_ (k _ _ (hS.row e s len cs hcl hm))
  subst h hc
  have hzc := zeroCells_eq ht hz hs0 len
  have hcomp : (parts.map fun p => (p.1, ev n f p.2)).map (fun p => (p.1, p.2.cells.toList)) = parts.map fun p => (p.1, (ev n f p.2).cells.toList) := by simp
  have hf := fill_ok (fun i => some (i * s, s)) ((List.range len).map fun i => (i * s, s)) (fun i hi => by simp at hi; simp [List.getElem?_range, hi]) (parts.map fun p => (p.1, ev n f p.2)) (reps z len) (by rw [hcomp]; exact hok)
  rw [hcomp, ← hzc] at hf
  simp only [Array.toArray_toList] at hf
  simp only [execOp, Instr.buildSlice, Sem.run_bind, run_underlying hu, Result.andThen_ok, ht.run_sizeOf]
  rw [if_neg (by omega)]
  simp only [Sem.run_pure, Result.andThen_ok, Sem.run_ite, show (len * s = 0) = False by simp; omega, if_false, Sem.run_bind, ht.run_zero, List.map_toArray, hf, hzc]
  simp [newRow, newObj, Sem.run, hzc]
theorem wl_makeSlice {t e : TypeId} {agg : Bool} {s bytes : Nat} {z : List Value} (hu : P.underlying t = some (.slice e)) (ht : TyI P e agg s bytes z) (hz : allOne z = true) (hs0 : 0 < s) (hS : St w m L) {x y : Operand} {l c : Int}
    (hx : ev n f x = .int .i64 l) (hy : ev n f y = .int .i64 c) (h0 : 0 ≤ l) (hlc : l ≤ c) (hb : (bytes : Int) * c ≤ 281474976710656) (h63 : c ≤ 9223372036854775807)
    (k : ∀ b w', St w' m (.row (.slice (some ⟨b, 0, none⟩) l.toNat c.toNat) e s (reps z l.toNat) :: L) → wl P r n ops K rest (updo f d (.slice (some ⟨b, 0, none⟩) l.toNat c.toNat)) w') :
    wl P r n ops K (⟨d, .makeSlice t x y, ty, pos, af, none⟩ :: rest) f w := by
  obtain ⟨i, hi, hiz, his, hib⟩ := ht.info
  have hzc := zeroCells_eq ht hz hs0
  have hr := run_make (P := P) w t e i (pack agg z) hu hi (by rw [hiz]; rfl) .i64 .i64 l c h0 hlc (by rw [hib]; exact hb) h63
  rw [his] at hr
  refine wl_run (w' := w.alloc (.cells (madeCells (pack agg z).cells (c.toNat * s)) e)) ?_ (k w.heap.size _ (hS.alloc _ rfl ⟨l.toNat, ?_, .inr ⟨w.heap.size, c.toNat, _, rfl, Nat.zero_le _, heap_alloc_new w _, by omega, by simp only [maxLen]; omega, size_madeCells _ _, ?_⟩⟩))
  · simp only [execOp, hx, hy, Sem.run_bind, hr, Result.andThen_ok, Sem.run_pure]
  · rw [reps_length, ht.len]
  · have := hzc c.toNat
    simp only [madeCells]
    rw [this]
    apply List.ext_getElem?
    intro j
    have hl := ht.len
    rw [List.getElem?_take]
    split
    · rename_i hj
      rw [reps_getElem? z (by omega) _ _ (by rw [hl]; exact Nat.lt_of_lt_of_le hj (Nat.mul_le_mul_right _ (by omega))), reps_getElem? z (by omega) _ _ (by rw [hl]; exact hj)]
    · rw [List.getElem?_eq_none (by rw [reps_length, hl]; omega)]
def Src (w : World) (s : Nat) (a : Option Addr) (k : Nat) (src : List Value) : Prop :=
  src.length = k * s ∧ allOne src = true ∧ (k = 0 ∨ ∃ ad, a = some ad ∧ CellsAt w ad src)
theorem row_nn {e : TypeId} {s : Nat} {a : Option Addr} {nn c : Nat} {cs : List Value} (h : RowOk w (.slice a nn c) e s cs) : w.ownsRow 0 e s (.slice a nn c) nn cs := by
  obtain ⟨n', h⟩ := h
  have : n' = nn := by
    rcases h.2 with ⟨h1, h2⟩ | ⟨g, cap, cur, h1, _⟩
    · injection h1 with _ h3 _; omega
    · injection h1 with _ h3 _; exact h3.symm
  exact this ▸ h
theorem row_len {e : TypeId} {s : Nat} {a : Option Addr} {nn c : Nat} {cs : List Value} (h : RowOk w (.slice a nn c) e s cs) : cs.length = nn * s := (row_nn h).1
theorem Swap.self {L L2 : List Atom} {A B : Atom} (h : Swap L A B L2) : A = B → L2 = L := by
  induction h with
  | here => intro h; rw [h]
  | there _ ih => intro h; rw [ih h]
theorem wl_append_src {t e : TypeId} {agg : Bool} {s bytes : Nat} {z : List Value} (hu : P.underlying t = some (.slice e)) (ht : TyI P e agg s bytes z) (hz : allOne z = true) (hs0 : 0 < s) (hS : St w m L) {x y : Operand}
    {a : Option Addr} {nn c : Nat} {cs : List Value} {a2 : Option Addr} {k2 c2 : Nat} {src : List Value} {L1 : List Atom}
    (hx : ev n f x = .slice a nn c) (hy : ev n f y = .slice a2 k2 c2) (hd : Drop L (.row (.slice a nn c) e s cs) L1) (hsrc : Src w s a2 k2 src) (hb : (nn + k2) * bytes ≤ 140737488355328) (hm : nn + k2 ≤ 140737488355328)
    (k : ∀ a' c' w', St w' m (.row (.slice a' (nn + k2) c') e s (cs ++ src) :: L1) → wl P r n ops K rest (updo f d (.slice a' (nn + k2) c')) w') :
    wl P r n ops K (⟨d, .call ⟨.builtin .append, #[x, y], #[t, t]⟩, ty, pos, af, none⟩ :: rest) f w := by
  have hperm : ∀ {L L1 : List Atom} {A : Atom}, Drop L A L1 → ∀ B, ∃ L2, Swap L A B L2 ∧ L2.Perm (B :: L1) := by
    intro L L1 A hd
    induction hd with
    | here => intro B; exact ⟨_, .here, .refl _⟩
    | there hd ih =>
      intro B
      obtain ⟨L2, h1, h2⟩ := ih B
      exact ⟨_, .there h1, (h2.cons _).trans (.swap _ _ _)⟩
  have hown := row_nn (hS.ok _ hd.mem)
  have hall : ∀ {w' : World} {L2 : List Atom} {A : Atom}, St w' m L2 → L2.Perm (A :: L1) → St w' m (A :: L1) := fun h hp =>
    { imm := h.imm, ok := fun B hB => h.ok B (hp.mem_iff.2 hB), sep := fun B hB => h.sep B (hp.mem_iff.2 hB), dis := (hp.pairwise_iff Apart.symm).1 h.dis, os := h.os, tape := h.tape, output := h.output }
  obtain ⟨hl, hone, h0⟩ := hsrc
  by_cases hk : k2 = 0
  · subst hk
    obtain rfl : src = [] := List.eq_nil_of_length_eq_zero (by simpa using hl)
    obtain ⟨L2, h1, h2⟩ := hperm hd (.row (.slice a nn c) e s cs)
    have hL2 : L2 = L := h1.self rfl
    subst hL2
    have hS' := hall hS h2
    refine wl_run (w' := w) (v := .slice a (nn + 0) c) ?_ (k a c w (by simpa using hS'))
    have hcap : nn ≤ c := by
      rcases hown.2 with ⟨h3, h4⟩ | ⟨g, cap, cur, h3, _, _, h5, _⟩
      · injection h3; omega
      · injection h3; omega
    obtain ⟨i, hi, hiz, his, hib⟩ := ht.info
    have hfc : (Builtin.firstCells s 0 (.slice a2 0 c2)).run P w = .ok #[] w := by cases a2 <;> simp [Builtin.firstCells, loadCells, loadCellsFrom]
    have hzeros : (do pure ((← underlying t) matches .int _) : Sem Bool).run P w = .ok false w := by simp [run_underlying hu]
    simp only [execOp, resolve, invoke, builtin, Sem.run_bind, Sem.run_pure, Result.andThen_ok, List.map_toArray, List.map_cons, List.map_nil, hx, hy]
    cases a with
    | none => simp [Builtin.append_, run_underlying hu, ht.run_sizeOf, Builtin.lenOf, hcap, hfc]
    | some ad => simp [Builtin.append_, run_underlying hu, ht.run_sizeOf, Builtin.lenOf, hcap, hfc, storeCells]
  · obtain ⟨ad, rfl, hcells⟩ := h0.resolve_left hk
    obtain ⟨i, hi, hiz, his, hib⟩ := ht.info
    have hpc : (pack agg z).cells.size = s := by
      have := ht.pack_cells ht.len hz
      have h3 := congrArg List.length this
      rw [ht.len] at h3
      simpa using h3
    obtain ⟨v', w', hr, h2, h3, h4, h5⟩ := run_append_own_at (P := P) w 0 t ty e i (pack agg z) s bytes hu hi (by rw [hiz]; rfl) his hib hpc hs0 (.slice a nn c) nn cs hown ad k2 c2 src hl (fun j u hj => hcells j u hj) (allOne_mem hone)
      (by simp only [maxLen]; omega) hb (Nat.zero_le _)
    have hv' : ∃ a' c', v' = .slice a' (nn + k2) c' := by
      rcases h2.2 with ⟨h6, h7⟩ | ⟨g, cap, cur, h6, _⟩
      · omega
      · exact ⟨_, _, h6⟩
    obtain ⟨a', c', rfl⟩ := hv'
    obtain ⟨L2, hsw, hp⟩ := hperm hd (.row (.slice a' (nn + k2) c') e s (cs ++ src))
    have hob : ∀ (a : Option Addr) (n c : Nat) (cs : List Value), (Value.slice a n c).ownBlock = (Atom.row (.slice a n c) e s cs).blk := fun a n c cs => by cases a <;> rfl
    have hS' : St w' m L2 := by
      refine hS.swap hsw h3.os h3.tape h3.output (fun b hb => ?_) ⟨_, h2⟩ (fun b hb hne => h3.block b hb (fun e' => hne (by rw [← hob, ← e'])))
      rw [hob, hob] at h5
      rcases h5 with h5 | h5
      · exact .inl (h5 ▸ hb)
      · rw [h5] at hb; cases hb; exact .inr (Nat.le_refl _)
    refine wl_run (w' := w') ?_ (k a' c' w' (hall hS' hp))
    simp only [execOp, resolve, invoke, builtin, Sem.run_bind, Sem.run_pure, Result.andThen_ok, List.map_toArray, List.map_cons, List.map_nil, hx, hy, hr]
end
end Go.K
