/- The data of layer 10, and how memory reads as them. -/
import Derived.Test.YtdhhimfcjoclfaaKQ
set_option linter.unusedVariables false
set_option linter.unusedSimpArgs false
set_option maxRecDepth 100000
namespace Go.V
open Go Go.K
structure Stop where
  load : Int
  ready : Int
  opn : Int
  close : Int
  serve : Int
  deriving DecidableEq
def RStop (m : Mem) (cs : List Value) (x : Stop) : Prop := cs = [.int .i64 x.load, .int .i64 x.ready, .int .i64 x.opn, .int .i64 x.close, .int .i64 x.serve]
theorem RStop.any : AnyM RStop := fun _ _ _ _ h => h
theorem RStop.mono : Mono RStop := fun _ _ _ _ h _ => h
theorem RStop.one : AllOne RStop := fun _ _ _ h => by rw [h]; rfl
structure Fleet where
  stops : (List Stop)
  minutes : (List (List Int))
  cap : Int
  start : Int
  back : Int
  deriving DecidableEq
def RFleet (m : Mem) (cs : List Value) (x : Fleet) : Prop := ∃ (a0 : Option Addr) (n0 c0 : Nat) (a1 : Option Addr) (n1 c1 : Nat), cs = [.slice a0 n0 c0, .slice a1 n1 c1, .int .i64 x.cap, .int .i64 x.start, .int .i64 x.back] ∧ RSl 5 RStop m a0 n0 c0 x.stops ∧ RSl 1 (RS 1 RInt) m a1 n1 c1 x.minutes
theorem RFleet.mono : Mono RFleet := fun _ _ _ _ ⟨a0, n0, c0, a1, n1, c1, h, h0, h1⟩ hm => ⟨a0, n0, c0, a1, n1, c1, h, RSl.mono RStop.mono h0 hm, RSl.mono (RS.mono RInt.mono) h1 hm⟩
structure Tour where
  stops : (List Int)
  leave : Int
  fin : Int
  deriving DecidableEq
def RTour (m : Mem) (cs : List Value) (x : Tour) : Prop := ∃ (a0 : Option Addr) (n0 c0 : Nat), cs = [.slice a0 n0 c0, .int .i64 x.leave, .int .i64 x.fin] ∧ RSl 1 RInt m a0 n0 c0 x.stops
theorem RTour.mono : Mono RTour := fun _ _ _ _ ⟨a0, n0, c0, h, h0⟩ hm => ⟨a0, n0, c0, h, RSl.mono RInt.mono h0 hm⟩
theorem RTour.one : AllOne RTour := fun _ _ _ ⟨a0, n0, c0, h, _⟩ => by rw [h]; rfl
structure Street where
  a : Int
  b : Int
  length : Int
  deriving DecidableEq
def RStreet (m : Mem) (cs : List Value) (x : Street) : Prop := cs = [.int .i64 x.a, .int .i64 x.b, .int .i64 x.length]
theorem RStreet.mono : Mono RStreet := fun _ _ _ _ h _ => h
structure Round where
  corners : Int
  streets : (List Street)
  deriving DecidableEq
def RRound (m : Mem) (cs : List Value) (x : Round) : Prop := ∃ (a0 : Option Addr) (n0 c0 : Nat), cs = [.int .i64 x.corners, .slice a0 n0 c0] ∧ RSl 3 RStreet m a0 n0 c0 x.streets
theorem RRound.mono : Mono RRound := fun _ _ _ _ ⟨a0, n0, c0, h, h0⟩ hm => ⟨a0, n0, c0, h, RSl.mono RStreet.mono h0 hm⟩
structure Step where
  street : Int
  back : Bool
  deriving DecidableEq
def RStep (m : Mem) (cs : List Value) (x : Step) : Prop := cs = [.int .i64 x.street, .bool x.back]
theorem RStep.any : AnyM RStep := fun _ _ _ _ h => h
theorem RStep.mono : Mono RStep := fun _ _ _ _ h _ => h
theorem RStep.one : AllOne RStep := fun _ _ _ h => by rw [h]; rfl
structure Plan where
  ok : Bool
  tours : (List Tour)
  takes : Int
  deriving DecidableEq
def RPlan (m : Mem) (cs : List Value) (x : Plan) : Prop := ∃ (a0 : Option Addr) (n0 c0 : Nat), cs = [.bool x.ok, .slice a0 n0 c0, .int .i64 x.takes] ∧ RSl 3 RTour m a0 n0 c0 x.tours
theorem RPlan.mono : Mono RPlan := fun _ _ _ _ ⟨a0, n0, c0, h, h0⟩ hm => ⟨a0, n0, c0, h, RSl.mono RTour.mono h0 hm⟩
def RPlanF (m0 m : Mem) (cs : List Value) (x : Plan) : Prop := ∃ (a0 : Option Addr) (n0 c0 : Nat), cs = [.bool x.ok, .slice a0 n0 c0, .int .i64 x.takes] ∧ Fresh 42 3 RTour m0 m a0 n0 c0 x.tours
theorem RPlanF.mono {m0 : Mem} : Mono (RPlanF m0) := fun _ _ _ _ ⟨a0, n0, c0, h, h0⟩ hm => ⟨a0, n0, c0, h, Fresh.mono RTour.mono h0 hm⟩
structure Come where
  step : Step
  any : Bool
  deriving DecidableEq
def RCome (m : Mem) (cs : List Value) (x : Come) : Prop := cs = [.int .i64 x.step.street, .bool x.step.back, .bool x.any]
theorem RCome.one : AllOne RCome := fun _ _ _ h => by rw [h]; rfl
structure Digits where
  l : (List Int)
  i : Int
  deriving DecidableEq
def RDigits (m : Mem) (cs : List Value) (x : Digits) : Prop := ∃ (a0 : Option Addr) (n0 c0 : Nat), cs = [.slice a0 n0 c0, .int .i64 x.i] ∧ RSl 1 (RIntK .u8) m a0 n0 c0 x.l
structure WayR where
  length : Int
  along : (Option (List Int))
  deriving DecidableEq
def RWayR (m : Mem) (cs : List Value) (x : WayR) : Prop := ∃ (a0 : Option Addr) (n0 c0 : Nat), cs = [.int .i64 x.length, .slice a0 n0 c0] ∧ ROp 1 RInt m a0 n0 c0 x.along
theorem RWayR.mono : Mono RWayR := fun _ _ _ _ ⟨a0, n0, c0, h, h0⟩ hm => ⟨a0, n0, c0, h, ROp.mono RInt.mono h0 hm⟩
end Go.V
