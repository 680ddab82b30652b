/- Walking loaded Go code: operations that make or write memory, and regions whose order is open; no program is named here. -/
import Derived.Test.YtdhhimfcjoclfaaKC
import Derived.Laws.MakeOwn
import Derived.Laws.OwnMore
set_option linter.unusedVariables false
set_option linter.unusedSimpArgs false
namespace Go.K
open Go
def allOne (cs : List Value) : Bool := cs.all Value.oneCell'
theorem allOne_mem {cs : List Value} (h : allOne cs = true) : ∀ v ∈ cs, v.oneCell' = true := fun v hv => List.all_eq_true.1 h v hv
def spl (cs : List Value) (o : Nat) (vs : List Value) : List Value := cs.take o ++ (vs ++ cs.drop (o + vs.length))
theorem spl_length {cs : List Value} {o : Nat} {vs : List Value} (h : o + vs.length ≤ cs.length) : (spl cs o vs).length = cs.length := by
  simp [spl]; omega
theorem St.box {w : World} {m : Mem} {L : List Atom} (h : St w m L) (t : TypeId) (cs : List Value) : St (w.alloc (.cells cs.toArray t)) m (.box w.heap.size t cs :: L) :=
  h.alloc _ rfl (heap_alloc_new w _)
theorem St.raw {w : World} {m : Mem} {L : List Atom} (h : St w m L) (o : Obj) : St (w.alloc o) m (.raw w.heap.size o :: L) :=
  h.alloc _ rfl (heap_alloc_new w _)
theorem St.row {w : World} {m : Mem} {L : List Atom} (h : St w m L) (e : TypeId) (s n : Nat) (cs : List Value) (hl : cs.length = n * s) (hm : n ≤ maxLen) :
    St (w.alloc (.cells cs.toArray e)) m (.row (.slice (some ⟨w.heap.size, 0, none⟩) n n) e s cs :: L) :=
  h.alloc _ rfl ⟨n, by have := World.ownsRow_lit (base := 0) (e := e) (size := s) w cs.toArray n (Nat.zero_le _) hm (by simpa using hl); simpa using this⟩
theorem St.store_box {w : World} {m : Mem} {L L' : List Atom} {b : Nat} {t : TypeId} {cs cs' : List Value} (h : St w m L) (hs : Swap L (.box b t cs) (.box b t cs') L') : St (w.setRow b cs'.toArray) m L' := by
  have hok : w.heap[b]? = some (.cells cs.toArray t (0, 0)) := h.ok _ hs.mem
  exact h.swap hs rfl rfl rfl (fun i hi => .inl hi) (setRow_heap w b _ _ t _ hok) fun i _ hne => setRow_other w b i _ fun e => hne (by subst e; rfl)
theorem St.store_row {w : World} {m : Mem} {L L' : List Atom} {g n c : Nat} {e : TypeId} {s : Nat} {cs : List Value} (h : St w m L) {o : Nat} {vs : List Value} (hl : o + vs.length ≤ cs.length)
    (hs : Swap L (.row (.slice (some ⟨g, 0, none⟩) n c) e s cs) (.row (.slice (some ⟨g, 0, none⟩) n c) e s (spl cs o vs)) L') :
    ∃ cur : Array Value, w.heap[g]? = some (.cells cur e (0, 0)) ∧ o + vs.length ≤ cur.size ∧ St (w.setRow g (cur.toList.take o ++ vs ++ cur.toList.drop (o + vs.length)).toArray) m L' := by
  obtain ⟨n', hn, ⟨h', _⟩ | ⟨g', cap, cur, he, h1, h2, h3, h4, h5, h6⟩⟩ := h.ok _ hs.mem
  · cases h'
  · injection he with e1 e2 e3
    injection e1 with e1
    injection e1 with e1
    subst e1 e2 e3
    have hcs : cs.length ≤ cur.size := by rw [← h6]; simp; omega
    refine ⟨cur, h2, by omega, h.swap hs rfl rfl rfl (fun i hi => .inl hi) ⟨n, ?_, .inr ⟨g, c, _, rfl, h1, setRow_heap w g _ _ e _ h2, h3, h4, ?_, ?_⟩⟩ fun i _ hne => setRow_other w g i _ fun e => hne (by subst e; rfl)⟩
    · rw [spl_length hl]; exact hn
    · simp only [List.size_toArray, List.length_append, List.length_take, List.length_drop, Array.length_toList]; omega
    · have hcut : cur.toList = cs ++ cur.toList.drop (n * s) := by rw [← h6]; exact (List.take_append_drop _ _).symm
      have hn' : cs.length = n * s := hn
      rw [List.append_assoc]
      apply List.ext_getElem?
      intro i
      simp only [spl, List.getElem?_take, List.getElem?_append, List.length_take, List.getElem?_drop, Array.length_toList]
      have hget : ∀ j, j < cs.length → cur.toList[j]? = cs[j]? := fun j hj => by rw [hcut, List.getElem?_append_left hj]
      by_cases hi : i < n * s
      · simp only [hi, if_true]
        by_cases h7 : i < o
        · simp [h7, show i < min o cur.size by omega, show i < min o cs.length by omega, ← hget i (by omega)]
        · have e1 : ¬ i < min o cur.size := by omega
          have e2 : ¬ i < min o cs.length := by omega
          simp only [e1, e2, if_false]
          have e3 : min o cur.size = o := by omega
          have e4 : min o cs.length = o := by omega
          rw [e3, e4]
          by_cases h8 : i - o < vs.length
          · simp only [h8, if_true]
          · simp only [h8, if_false]
            rw [hget _ (by omega)]
      · simp only [hi, if_false]
        have e2 : ¬ i < min o cs.length := by omega
        simp only [e2, if_false]
        have e4 : min o cs.length = o := by omega
        rw [e4]
        have h8 : ¬ i - o < vs.length := by omega
        simp only [h8, if_false]
        rw [List.getElem?_eq_none (by omega)]
section
variable {P : Program} {r : Option Nat} {n : NF} {ops : Array Oper} {K : Fr → World → Prop} {rest : List Oper} {f : Fr} {w : World} {m : Mem} {L : List Atom}
  {d : Option Nat} {ty : TypeId} {pos : String} {af : Array Edge}
theorem wl_box {t : TypeId} {x : Operand} {v : Value} {cs : List Value} (hS : St w m L) (hx : ev n f x = v) (hc : v.cells.toList = cs)
    (k : ∀ b w', St w' m (.box b t cs :: L) → wl P r n ops K rest (updo f d (.pointer (some ⟨b, 0, none⟩))) w') : wl P r n ops K (⟨d, .box t x, ty, pos, af, none⟩ :: rest) f w := by
  refine wl_run (w' := w.alloc (.cells cs.toArray t)) ?_ (k _ _ (hS.box t cs))
  subst hc
  simp [execOp, hx, Instr.box, newVar, newRow, newObj, Sem.run]
theorem TyI.pack_cells {t : TypeId} {agg : Bool} {s bytes : Nat} {z : List Value} (ht : TyI P t agg s bytes z) {cs : List Value} (hl : cs.length = s) (h1 : allOne cs = true) : (pack agg cs).cells.toList = cs := by
  cases agg with
  | true => rfl
  | false =>
    have h2 := ht.one rfl
    match cs, hl.trans h2 with
    | [v], _ =>
      have := allOne_mem h1 v (by simp)
      cases v <;> first | rfl | simp [Value.oneCell'] at this
theorem wl_alloc {t : TypeId} {agg : Bool} {s bytes : Nat} {z : List Value} (ht : TyI P t agg s bytes z) (hz : allOne z = true) (hS : St w m L)
    (k : ∀ b w', St w' m (.box b t z :: L) → wl P r n ops K rest (updo f d (.pointer (some ⟨b, 0, none⟩))) w') : wl P r n ops K (⟨d, .alloc t, ty, pos, af, none⟩ :: rest) f w := by
  refine wl_run (w' := w.alloc (.cells z.toArray t)) ?_ (k _ _ (hS.box t z))
  have hp := ht.pack_cells ht.len hz
  have hp' : (pack agg z).cells = z.toArray := by apply Array.toList_inj.1; simpa using hp
  simp [execOp, Instr.alloc, ht.run_zero, newVar, newRow, newObj, Sem.run, hp']
theorem run_storeAt {t : TypeId} {agg : Bool} {s bytes : Nat} {z : List Value} (ht : TyI P t agg s bytes z) {b o : Nat} {cur : Array Value} {e : TypeId} {v : Value} {vs : List Value} (hw : w.heap[b]? = some (.cells cur e (0, 0)))
    (hv : v.cells.toList = vs) (hl : vs.length = s) (h1 : allOne vs = true) (hb : o + vs.length ≤ cur.size) :
    (Instr.storeAt t (.pointer (some ⟨b, o, none⟩)) v).run P w = .ok () (w.setRow b (cur.toList.take o ++ vs ++ cur.toList.drop (o + vs.length)).toArray) := by
  have hst := run_storeCells_at P b o e vs 0 cur w hw (by simpa using hb) (allOne_mem h1)
  have hsz : v.cells.size = s := by rw [← hl, ← hv]; simp
  simp only [Nat.add_zero] at hst
  simp only [Instr.storeAt, Instr.sureAddr, pure_bind, storeVar, Sem.run_bind, ht.run_sizeOf, Result.andThen_ok, hsz, ne_eq, not_true_eq_false, if_false, Sem.run_pure, hv, hst]
theorem wl_store_box {t : TypeId} {agg : Bool} {s bytes : Nat} {z : List Value} (ht : TyI P t agg s bytes z) {x y : Operand} {b o : Nat} {tb : TypeId} {v : Value} {cs vs cs' : List Value} {L' : List Atom} (hS : St w m L)
    (hx : ev n f x = .pointer (some ⟨b, o, none⟩)) (hy : ev n f y = v) (hv : v.cells.toList = vs) (hl : vs.length = s) (h1 : allOne vs = true) (hs : Swap L (.box b tb cs) (.box b tb cs') L') (hc : spl cs o vs = cs') (hb' : Nat.ble (o + s) cs.length = true)
    (k : ∀ w', St w' m L' → wl P r n ops K rest (updo f d undef) w') : wl P r n ops K (⟨d, .store t x y, ty, pos, af, none⟩ :: rest) f w := by
  subst hc
  have hok : w.heap[b]? = some (.cells cs.toArray tb (0, 0)) := hS.ok _ hs.mem
  have hb := Nat.le_of_ble_eq_true hb'
  have hr := run_storeAt ht (o := o) hok hv hl h1 (by simp; omega)
  have hS' := hS.store_box hs
  refine wl_skip (w' := w.setRow b (spl cs o vs).toArray) ?_ (k _ hS')
  simp only [execOp, hx, hy]
  simp only [List.append_assoc] at hr
  simp only [Sem.run_bind, hr, Result.andThen_ok, Sem.run_pure]
  rfl
theorem wl_store_row {t : TypeId} {agg : Bool} {s bytes : Nat} {z : List Value} (ht : TyI P t agg s bytes z) {x y : Operand} {b o : Nat} {nn c : Nat} {e : TypeId} {se : Nat} {v : Value} {cs vs : List Value} {L' : List Atom} (hS : St w m L)
    (hx : ev n f x = .pointer (some ⟨b, o, none⟩)) (hy : ev n f y = v) (hv : v.cells.toList = vs) (hl : vs.length = s) (h1 : allOne vs = true)
    (hs : Swap L (.row (.slice (some ⟨b, 0, none⟩) nn c) e se cs) (.row (.slice (some ⟨b, 0, none⟩) nn c) e se (spl cs o vs)) L') (hb : o + s ≤ cs.length)
    (k : ∀ w', St w' m L' → wl P r n ops K rest (updo f d undef) w') : wl P r n ops K (⟨d, .store t x y, ty, pos, af, none⟩ :: rest) f w := by
  obtain ⟨cur, h2, h3, hS'⟩ := hS.store_row (by omega) hs
  have hr := run_storeAt ht (o := o) h2 hv hl h1 h3
  refine wl_skip ?_ (k _ hS')
  simp only [execOp, hx, hy, Sem.run_bind, hr, Result.andThen_ok, Sem.run_pure]
def fillP (pl : List (Nat × Nat)) : List Value → List (Nat × List Value) → List Value
  | zs, [] => zs
  | zs, (i, c) :: r => fillP pl (spl zs (pl.getD i (0, 0)).1 c) r
def okP (pl : List (Nat × Nat)) (len : Nat) : List (Nat × List Value) → Bool
  | [] => true
  | (i, c) :: r => Nat.blt i pl.length && (c.length == (pl.getD i (0, 0)).2 && (Nat.ble ((pl.getD i (0, 0)).1 + c.length) len && okP pl len r))
theorem foldl_set (cs : List Value) : ∀ (vs : List Value) (o k : Nat), o + k + vs.length ≤ cs.length →
    (vs.zipIdx k).foldl (fun (a : Array Value) (p : Value × Nat) => a.setIfInBounds (o + p.2) p.1) cs.toArray = (spl cs (o + k) vs).toArray := by
  intro vs
  induction vs generalizing cs with
  | nil => intro o k h; simp [spl]
  | cons v vs ih =>
    intro o k h
    simp only [List.length_cons] at h
    simp only [List.zipIdx_cons, List.foldl_cons, List.setIfInBounds_toArray]
    rw [ih (cs.set (o + k) v) o (k + 1) (by simp; omega)]
    congr 1
    simp only [spl, List.length_cons]
    rw [show o + (k + 1) = o + k + 1 by omega]
    rw [List.take_set, List.drop_set, if_pos (by omega)]
    have : (cs.take (o + k + 1)).set (o + k) v = cs.take (o + k) ++ [v] := by
      rw [List.take_succ_eq_append_getElem (by omega)]
      rw [List.set_append]
      simp [show min (o + k) cs.length = o + k by omega]
    rw [this]
    simp [show o + k + 1 + vs.length = o + k + (vs.length + 1) by omega]
theorem fill_ok (place : Nat → Option (Nat × Nat)) (pl : List (Nat × Nat)) (hp : ∀ i, i < pl.length → place i = pl[i]?) : ∀ (ps : List (Nat × Value)) (zs : List Value),
    okP pl zs.length (ps.map fun p => (p.1, p.2.cells.toList)) = true → Instr.fill place zs.toArray ps = some (fillP pl zs (ps.map fun p => (p.1, p.2.cells.toList))).toArray
  | [], zs, _ => rfl
  | (i, v) :: r, zs, h => by
    simp only [List.map_cons, okP, Bool.and_eq_true, Nat.blt_eq, beq_iff_eq, Nat.ble_eq] at h
    obtain ⟨h1, h2, h3, h4⟩ := h
    have hg : pl[i]? = some (pl.getD i (0, 0)) := by simp [List.getD_eq_getElem?_getD, List.getElem?_eq_getElem h1]
    have hl : v.cells.toList.length = v.cells.size := by simp
    simp only [Instr.fill, hp i h1, hg, fillP, List.map_cons]
    generalize pl.getD i (0, 0) = q at *
    rw [hl] at h2 h3
    rw [if_neg (by simp only [List.size_toArray, Bool.or_eq_true, bne_iff_ne, ne_eq, decide_eq_true_eq, not_or, Decidable.not_not]; exact ⟨h2, by omega⟩)]
    have hz : v.cells.zipIdx.foldl (fun cs (c, j) => cs.setIfInBounds (q.1 + j) c) zs.toArray = (spl zs q.1 v.cells.toList).toArray := by
      have := foldl_set zs v.cells.toList q.1 0 (by rw [hl]; omega)
      rw [Nat.add_zero] at this
      rw [← this, ← Array.foldl_toList]
      simp
    rw [hz]
    rw [fill_ok place pl hp r _ (by rw [spl_length (by rw [hl]; omega)]; exact h4)]
def StI (P : Program) (t : TypeId) (pl : List (Nat × Nat)) : Prop :=
  ∃ fs, P.underlying t = some (.struct fs) ∧ ∃ is, fs.toList.map (fun f => P.info? f.type) = is.map some ∧ (fs.toList.zip is).map (fun p => (p.1.offset, p.2.size)) = pl
theorem StI.run {t : TypeId} {pl : List (Nat × Nat)} (h : StI P t pl) : ∃ fs, P.underlying t = some (.struct fs) ∧ (fs.mapM (m := Sem) fun f => do pure (f.offset, ← sizeOf f.type)).run P w = .ok pl.toArray w := by
  obtain ⟨fs, h1, is, h2, h3⟩ := h
  refine ⟨fs, h1, ?_⟩
  rw [← Array.toArray_toList (xs := fs), List.mapM_toArray]
  generalize fs.toList = l at *
  have key : ∀ (l : List Field) (is : List TypeInfo) (pl : List (Nat × Nat)), l.map (fun f => P.info? f.type) = is.map some → (l.zip is).map (fun p => (p.1.offset, p.2.size)) = pl →
      (l.mapM (m := Sem) fun f => do pure (f.offset, ← sizeOf f.type)).run P w = .ok pl w := by
    intro l
    induction l with
    | nil => intro is pl _ h; simp at h; subst h; simp
    | cons f l ih =>
      intro is pl h2 h3
      cases is with
      | nil => simp at h2
      | cons j is =>
        simp only [List.map_cons, List.cons.injEq, List.zip_cons_cons] at h2 h3
        have hs : (sizeOf f.type).run P w = .ok j.size w := by simp [sizeOf, typeInfo, program, Sem.run, h2.1]
        have := ih is _ h2.2 rfl
        simp only [bind_pure_comp] at this ⊢
        simp only [List.mapM_cons, Sem.run_bind, Sem.run_map, hs, Result.andThen_ok, this, Sem.run_pure, ← h3]
  simp only [Sem.run_map, key l is pl h2 h3, Result.andThen_ok]
theorem r_build {S : World → Prop} {ρ : Operand → Value} {g : Option (Nat × Bool)} {t : TypeId} {s bytes : Nat} {z : List Value} {pl : List (Nat × Nat)} (ht : TyI P t true s bytes z) (hp : StI P t pl)
    {parts : List (Nat × Operand)} {ps : List (Nat × List Value)} (h : parts.map (fun p => (p.1, (ρ p.2).cells.toList)) = ps) (hok : okP pl z.length ps = true) {cs : List Value} (hc : fillP pl z ps = cs) :
    RunV P S ⟨d, .build t parts.toArray, ty, pos, af, g⟩ ρ (.agg cs.toArray) := fun w _ => by
  subst hc h
  obtain ⟨fs, h1, h2⟩ := hp.run (w := w)
  have hcomp : (parts.map fun p => (p.1, ρ p.2)).map (fun p => (p.1, p.2.cells.toList)) = parts.map fun p => (p.1, (ρ p.2).cells.toList) := by simp
  have hf := fill_ok (fun i => pl.toArray[i]?) pl (fun i _ => by simp) (parts.map fun p => (p.1, ρ p.2)) z (by rw [hcomp]; exact hok)
  rw [hcomp] at hf
  simp only [execOp, Instr.build, Sem.run_bind, ht.run_zero, Result.andThen_ok, run_underlying h1, h2, pack, if_true, Value.cells, List.map_toArray, hf, Sem.run_pure]
end
end Go.K
