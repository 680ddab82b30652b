/- Frames as functions, the heap as an immutable part and owned atoms, and the runs of operations that only read: lemmas for walking loaded Go code; no program is named here. -/
import Derived.Calls
import Derived.Orders
import Derived.OrdersHeld
import Derived.Tactics
import Derived.Laws.Sem
import Derived.Laws.World
import Derived.Laws.AppendOwn
import Derived.KernelRfl
set_option linter.unusedVariables false
set_option linter.unusedSimpArgs false
namespace Go.K
open Go
abbrev Fr := Nat → Value
def upd (f : Fr) (d : Nat) (v : Value) : Fr := fun t => cond (Nat.beq t d) v (f t)
def updo (f : Fr) : Option Nat → Value → Fr
  | some d, v => upd f d v
  | none, _ => f
structure NF where
  n : Nat
  ds : List Nat
def mkD (D : Nat) : Deferred := { target := .collected D, args := #[] }
def ev (n : NF) (f : Fr) : Operand → Value
  | .tmp t => cond (Nat.blt t n.n) (f t) undef
  | .const v => v
  | .global g => .pointer (some ⟨g, 0, none⟩)
  | .func k => .func (.func k) #[] #[]
def act (n : NF) (f : Fr) : Act := { tmps := Array.ofFn (n := n.n) fun i => f i.val, defers := n.ds.map mkD }
theorem eval_act (n : NF) (f : Fr) : (act n f).eval = ev n f := by
  funext x
  cases x with
  | tmp t =>
    simp only [Act.eval, act, ev]
    by_cases h : t < n.n
    · have : Nat.blt t n.n = true := by simpa [Nat.blt_eq] using h
      simp [h, this]
    · have : Nat.blt t n.n = false := by rw [Bool.eq_false_iff]; simpa [Nat.blt_eq] using h
      simp [h, this]
  | _ => rfl
theorem upd_same (f : Fr) (d : Nat) : upd f d (f d) = f := by
  funext t
  unfold upd
  cases h : Nat.beq t d with
  | true => simp [Nat.eq_of_beq_eq_true h]
  | false => rfl
theorem put_act (n : NF) (f : Fr) (d : Option Nat) (v : Value) : (act n f).put d v = act n (updo f d v) := by
  cases d with
  | none => rfl
  | some d =>
    simp only [Act.put, act, updo]
    congr 1
    apply Array.ext
    · simp
    · intro i h1 h2
      simp only [Array.getElem_setIfInBounds, Array.getElem_ofFn, upd]
      by_cases h : d = i
      · subst h; simp
      · have : Nat.beq i d = false := by
          rw [Bool.eq_false_iff]; intro hh; exact h (Nat.eq_of_beq_eq_true hh).symm
        rw [Array.getElem_setIfInBounds_ne (by simpa using h1) h]
        simp [this]
structure Mem where
  blk : Nat → Option Obj
  os : Os
  tape : Nat → Question → Nat
  output : Array (Nat × ByteArray)
structure Mem.Le (m m' : Mem) : Prop where
  blk : ∀ b o, m.blk b = some o → m'.blk b = some o
  os : m'.os = m.os
  tape : m'.tape = m.tape
  output : m'.output = m.output
instance : LE Mem := ⟨Mem.Le⟩
theorem Mem.le_refl (m : Mem) : m ≤ m := ⟨fun _ _ h => h, rfl, rfl, rfl⟩
theorem Mem.le_trans {a b c : Mem} (h : a ≤ b) (k : b ≤ c) : a ≤ c := ⟨fun i o e => k.blk i o (h.blk i o e), k.os.trans h.os, k.tape.trans h.tape, k.output.trans h.output⟩
def RowOk (w : World) (v : Value) (e : TypeId) (s : Nat) (cs : List Value) : Prop := ∃ n, w.ownsRow 0 e s v n cs
inductive Atom where
  | box (b : Nat) (t : TypeId) (cs : List Value)
  | row (v : Value) (e : TypeId) (s : Nat) (cs : List Value)
  | raw (b : Nat) (o : Obj)
def Atom.ok (w : World) : Atom → Prop
  | .box b t cs => w.heap[b]? = some (.cells cs.toArray t (0, 0))
  | .row v e s cs => RowOk w v e s cs
  | .raw b o => w.heap[b]? = some o
def Atom.blk : Atom → Option Nat
  | .box b _ _ => some b
  | .row (.slice (some a) _ _) _ _ _ => some a.block
  | .row _ _ _ _ => none
  | .raw b _ => some b
def Apart (A B : Atom) : Prop := ∀ b, A.blk = some b → B.blk ≠ some b
structure Held (w : World) (m : Mem) (L : List Atom) : Prop where
  imm : ∀ b o, m.blk b = some o → w.heap[b]? = some o
  ok : ∀ A ∈ L, A.ok w
structure St (w : World) (m : Mem) (L : List Atom) : Prop extends Held w m L where
  sep : ∀ A ∈ L, ∀ b, A.blk = some b → m.blk b = none
  dis : L.Pairwise Apart
  os : w.os = m.os
  tape : w.tape = m.tape
  output : w.output = m.output
theorem Apart.symm {A B : Atom} (h : Apart A B) : Apart B A := fun b hb ha => h b ha hb
theorem ok_lt {w : World} {A : Atom} (h : A.ok w) {b : Nat} (hb : A.blk = some b) : b < w.heap.size := by
  cases A with
  | box c t cs => simp [Atom.blk] at hb; subst hb; exact (Array.getElem?_eq_some_iff.1 h).1
  | raw c o => simp [Atom.blk] at hb; subst hb; exact (Array.getElem?_eq_some_iff.1 h).1
  | row v e s cs =>
    obtain ⟨n, h⟩ := h
    have hb' : v.ownBlock = some b := by
      cases v with
      | slice a n c => cases a <;> simp_all [Atom.blk, Value.ownBlock]
      | _ => simp [Atom.blk] at hb
    exact (h.lt b hb').2
theorem ok_frame {w w' : World} {A : Atom} (h : A.ok w) (hw : ∀ b, A.blk = some b → w'.heap[b]? = w.heap[b]?) : A.ok w' := by
  cases A with
  | box c t cs => exact (hw c rfl).trans h
  | raw c o => exact (hw c rfl).trans h
  | row v e s cs =>
    obtain ⟨n, hn, h | ⟨g, cap, cur, rfl, h1, h2, h3⟩⟩ := h
    · exact ⟨n, hn, .inl h⟩
    · exact ⟨n, hn, .inr ⟨g, cap, cur, rfl, h1, (hw g rfl).trans h2, h3⟩⟩
theorem St.imm_lt {w : World} {m : Mem} {L : List Atom} (h : St w m L) {b : Nat} {o : Obj} (hb : m.blk b = some o) : b < w.heap.size :=
  (Array.getElem?_eq_some_iff.1 (h.imm b o hb)).1
inductive Own : List Atom → Atom → Prop
  | here {A L} : Own (A :: L) A
  | there {A B L} : Own L A → Own (B :: L) A
theorem Own.mem {L : List Atom} {A : Atom} (h : Own L A) : A ∈ L := by
  induction h with
  | here => exact .head _
  | there _ ih => exact .tail _ ih
inductive Swap : List Atom → Atom → Atom → List Atom → Prop
  | here {A B L} : Swap (A :: L) A B (B :: L)
  | there {A B C L L'} : Swap L A B L' → Swap (C :: L) A B (C :: L')
inductive Drop : List Atom → Atom → List Atom → Prop
  | here {A L} : Drop (A :: L) A L
  | there {A C L L'} : Drop L A L' → Drop (C :: L) A (C :: L')
theorem Swap.mem {L L' : List Atom} {A B : Atom} (h : Swap L A B L') : A ∈ L := by
  induction h with
  | here => exact .head _
  | there _ ih => exact .tail _ ih
theorem Drop.mem {L L' : List Atom} {A : Atom} (h : Drop L A L') : A ∈ L := by
  induction h with
  | here => exact .head _
  | there _ ih => exact .tail _ ih
theorem Drop.sub {L L' : List Atom} {A : Atom} (h : Drop L A L') : L'.Sublist L := by
  induction h with
  | here => exact List.sublist_cons_self _ _
  | there _ ih => exact ih.cons_cons _
theorem Drop.apart {L L' : List Atom} {A : Atom} (h : Drop L A L') : L.Pairwise Apart → ∀ C ∈ L', Apart A C := by
  induction h with
  | here => exact fun hp C hC => (List.pairwise_cons.1 hp).1 C hC
  | there hd ih =>
    intro hp C hC
    have hp := List.pairwise_cons.1 hp
    cases hC with
    | head => exact (hp.1 _ hd.mem).symm
    | tail _ hC => exact ih hp.2 C hC
theorem Held.own {w : World} {m : Mem} {L : List Atom} (h : Held w m L) {A : Atom} (o : Own L A) : A.ok w := h.ok A o.mem
theorem Held.mono {w : World} {m m' : Mem} {L : List Atom} (h : Held w m' L) (hm : m ≤ m') {L' : List Atom} (hl : ∀ A ∈ L', A ∈ L) : Held w m L' :=
  ⟨fun b o e => h.imm b o (hm.blk b o e), fun A hA => h.ok A (hl A hA)⟩
theorem St.weaken {w : World} {m : Mem} {L L' : List Atom} (h : St w m L) (hl : L'.Sublist L) : St w m L' :=
  { imm := h.imm, ok := fun A hA => h.ok A (hl.subset hA), sep := fun A hA => h.sep A (hl.subset hA), dis := h.dis.sublist hl, os := h.os, tape := h.tape, output := h.output }
theorem St.drew {w : World} {m : Mem} {L : List Atom} (h : St w m L) (n : Nat) : St { w with drawn := n } m L :=
  { imm := h.imm, ok := fun A hA => ok_frame (h.ok A hA) fun _ _ => rfl, sep := h.sep, dis := h.dis, os := h.os, tape := h.tape, output := h.output }
theorem Held.drew {w : World} {m : Mem} {L : List Atom} (h : Held w m L) (n : Nat) : Held { w with drawn := n } m L :=
  { imm := h.imm, ok := fun A hA => ok_frame (h.ok A hA) fun _ _ => rfl }
theorem St.alloc {w : World} {m : Mem} {L : List Atom} (h : St w m L) (o : Obj) {A : Atom} (hA : A.blk = some w.heap.size)
    (hok : A.ok { w with heap := w.heap.push o }) : St { w with heap := w.heap.push o } m (A :: L) := by
  have hold : ∀ b, b < w.heap.size → (w.heap.push o)[b]? = w.heap[b]? := fun b hb => by
    rw [Array.getElem?_push]; simp [Nat.ne_of_lt hb]
  refine { imm := ?_, ok := ?_, sep := ?_, dis := ?_, os := h.os, tape := h.tape, output := h.output }
  · intro b o' hb
    exact (hold b (h.imm_lt hb)).trans (h.imm b o' hb)
  · intro B hB
    cases hB with
    | head => exact hok
    | tail _ hB => exact ok_frame (h.ok B hB) fun b hb => hold b (ok_lt (h.ok B hB) hb)
  · intro B hB b hb
    cases hB with
    | head =>
      rw [hA] at hb
      obtain rfl : w.heap.size = b := by simpa using hb
      cases hm : m.blk w.heap.size with
      | none => rfl
      | some o' => exact absurd (h.imm_lt hm) (Nat.lt_irrefl _)
    | tail _ hB => exact h.sep B hB b hb
  · refine List.pairwise_cons.2 ⟨fun B hB b hb hb' => ?_, h.dis⟩
    rw [hA] at hb
    obtain rfl : w.heap.size = b := by simpa using hb
    exact absurd (ok_lt (h.ok B hB) hb') (Nat.lt_irrefl _)
theorem Swap.keeps {w : World} {L L' : List Atom} {A B : Atom} (hs : Swap L A B L') (hblk : ∀ b, B.blk = some b → A.blk = some b ∨ w.heap.size ≤ b) :
    L.Pairwise Apart → (∀ C ∈ L, C.ok w) → (∀ C ∈ L', C = B ∨ (C ∈ L ∧ Apart A C)) ∧ L'.Pairwise Apart := by
  induction hs with
  | here =>
    intro hd hk
    have hd := List.pairwise_cons.1 hd
    refine ⟨fun C hC => ?_, List.pairwise_cons.2 ⟨fun C hC b hb hc => ?_, hd.2⟩⟩
    · cases hC with
      | head => exact .inl rfl
      | tail _ hC => exact .inr ⟨.tail _ hC, hd.1 C hC⟩
    · rcases hblk b hb with ha | hge
      · exact hd.1 C hC b ha hc
      · exact absurd (ok_lt (hk C (.tail _ hC)) hc) (Nat.not_lt.2 hge)
  | @there A' B' C L L' hs ih =>
    intro hd hk
    have hd := List.pairwise_cons.1 hd
    obtain ⟨h1, h2⟩ := ih hblk hd.2 fun C hC => hk C (.tail _ hC)
    refine ⟨fun D hD => ?_, List.pairwise_cons.2 ⟨fun D hD => ?_, h2⟩⟩
    · cases hD with
      | head => exact .inr ⟨.head _, (hd.1 _ hs.mem).symm⟩
      | tail _ hD => exact (h1 D hD).imp id fun h => ⟨.tail _ h.1, h.2⟩
    · rcases h1 D hD with rfl | ⟨hD', _⟩
      · intro b hb hd'
        rcases hblk b hd' with ha | hge
        · exact hd.1 _ hs.mem b hb ha
        · exact absurd (ok_lt (hk C (.head _)) hb) (Nat.not_lt.2 hge)
      · exact hd.1 D hD'
theorem St.swap {w : World} {m : Mem} {L L' : List Atom} {A B : Atom} (h : St w m L) (hs : Swap L A B L') {w' : World}
    (hos : w'.os = w.os) (htape : w'.tape = w.tape) (hout : w'.output = w.output)
    (hblk : ∀ b, B.blk = some b → A.blk = some b ∨ w.heap.size ≤ b) (hok : B.ok w')
    (hsame : ∀ b, b < w.heap.size → A.blk ≠ some b → w'.heap[b]? = w.heap[b]?) : St w' m L' := by
  have himm : ∀ b o, m.blk b = some o → w'.heap[b]? = some o := fun b o hb => by
    rw [hsame b (h.imm_lt hb) (fun hA => by rw [h.sep A hs.mem b hA] at hb; cases hb)]
    exact h.imm b o hb
  obtain ⟨h1, h2⟩ := hs.keeps hblk h.dis h.ok
  refine { imm := himm, ok := ?_, sep := ?_, dis := h2, os := hos.trans h.os, tape := htape.trans h.tape, output := hout.trans h.output }
  · intro C hC
    rcases h1 C hC with rfl | ⟨hC', hap⟩
    · exact hok
    · exact ok_frame (h.ok C hC') fun b hb => hsame b (ok_lt (h.ok C hC') hb) fun ha => hap b ha hb
  · intro C hC b hb
    rcases h1 C hC with rfl | ⟨hC', hap⟩
    · rcases hblk b hb with ha | hge
      · exact h.sep A hs.mem b ha
      · cases hm : m.blk b with
        | none => rfl
        | some o => exact absurd (h.imm_lt hm) (Nat.not_lt.2 hge)
    · exact h.sep C hC' b hb
def Mem.add (m : Mem) (b : Nat) (o : Obj) : Mem := { m with blk := fun i => if i = b then some o else m.blk i }
theorem Mem.le_add {m : Mem} {b : Nat} {o : Obj} (h : m.blk b = none) : m ≤ m.add b o :=
  ⟨fun i o' hi => by
    simp only [Mem.add]
    by_cases e : i = b
    · subst e; rw [h] at hi; cases hi
    · simp [e, hi], rfl, rfl, rfl⟩
theorem St.freeze {w : World} {m : Mem} {L L' : List Atom} {A : Atom} (h : St w m L) (hd : Drop L A L') {b : Nat} (hb : A.blk = some b) {o : Obj} (ho : w.heap[b]? = some o) :
    St w (m.add b o) L' ∧ m ≤ m.add b o ∧ (m.add b o).blk b = some o := by
  have hnone := h.sep A hd.mem b hb
  refine ⟨{ imm := ?_, ok := fun C hC => h.ok C (hd.sub.subset hC), sep := ?_, dis := h.dis.sublist hd.sub, os := h.os, tape := h.tape, output := h.output }, Mem.le_add hnone, by simp [Mem.add]⟩
  · intro i o' hi
    simp only [Mem.add] at hi
    split at hi
    · rename_i e; subst e; cases hi; exact ho
    · exact h.imm i o' hi
  · intro C hC i hi
    simp only [Mem.add]
    split
    · rename_i e; subst e; exact absurd hi (hd.apart h.dis C hC i hb)
    · exact h.sep C (hd.sub.subset hC) i hi
structure TyI (P : Program) (t : TypeId) (agg : Bool) (s bytes : Nat) (z : List Value) : Prop where
  info : ∃ i, P.info? t = some i ∧ i.zero = some (if agg then .agg z.toArray else z.headD undef) ∧ i.size = s ∧ i.bytes = bytes
  und : (match P.underlying t with | some (.struct _) | some (.array _ _) => agg = true | some _ => agg = false | none => False)
  len : z.length = s
  one : agg = false → s = 1
def pack (agg : Bool) (cs : List Value) : Value := if agg then .agg cs.toArray else cs.headD undef
end Go.K
