/- Symbolic states over the model: pure values, symbolic slots and objects, and what it means that a concrete state fits a symbolic one. -/
import Derived.WalkKit
import Derived.KernelRfl
import Derived.Maps.AppendAt
import Derived.RangeFuncLeaves
import Derived.OrdersIn
import Derived.TacticsIn
import Derived.Sort.LoopGhostIn
import Derived.LoopNIn
import Derived.RangeFuncRecord
set_option linter.all false
set_option maxHeartbeats 4000000
namespace Go.Sy
open Go.RowKit

/-- Who a block belongs to. -/
inductive Color where
  | imm | own (o : Nat) | other | mrk
  deriving DecidableEq

/-- A value that no write can turn. -/
inductive PV where
  | val (v : Value)
  | agg (cs : List PV)
  | list (sz : Nat) (nl : Bool) (xs : List PV)
  deriving Inhabited

/-- Where an object lies: a block that stays, or a slice's head with its number. -/
inductive Hd where
  | fix (g : Nat)
  | ver (n : Nat) (h : Value)

inductive SV where
  | pure (p : PV)
  | ptr (o k : Nat)
  | vref (o n : Nat)
  | eptr (o n sz i off : Nat)
  | ipt (cs : List PV)
  | mref (o : Nat)
  | agg (cs : List SV)
  | tup (cs : List SV)
  | clo (f : FuncId) (caps : List SV)
  | dead
  | lit (sz : Nat) (xs : List PV)
  | sref (o k n : Nat)
  | yld (o : Nat)
  | bnd (f : FuncId) (first : List SV)
  deriving Inhabited

inductive Ob where
  | cells (t : TypeId) (cs : List SV)
  | vec (n : Nat) (e : TypeId) (sz : Nat) (nl : Bool) (xs : List PV)
  | fro (n : Nat) (sz : Nat) (nl : Bool) (xs : List PV)
  | gone
  | row (t : TypeId) (n : Nat) (xs : List PV)
  | loop (env : List SV) (ps : Array Tmp) (asg body : Code) (s : LoopState) (pend : Option Code)
  | map (es : List (PV × PV))
  deriving Inhabited

structure St where
  env : List SV
  st : List Ob

/-- The cells at an address are these, and nobody writes there. -/
def Cells (χ : Nat → Color) (w : World) (A : Option Addr) (us : List Value) : Prop :=
  ∀ k u, us[k]? = some u → ∃ ad, A = some ad ∧ χ ad.block = .imm ∧ w.cell? (ad.add k) = some u

mutual
def RP (χ : Nat → Color) (w : World) : PV → Value → Prop
  | .val v, u => u = v
  | .agg cs, u => ∃ us : List Value, u = .agg us.toArray ∧ RL χ w cs us
  | .list sz nl xs, u => ∃ A c us, u = .slice A xs.length c ∧ xs.length ≤ c ∧ c ≤ maxLen ∧ (A = none → c = 0) ∧ (nl = true ↔ A = none) ∧ RF χ w sz xs us ∧ Cells χ w A us
def RL (χ : Nat → Color) (w : World) : List PV → List Value → Prop
  | [], us => us = []
  | c :: cs, us => ∃ u r, us = u :: r ∧ u.oneCell' = true ∧ RP χ w c u ∧ RL χ w cs r
def RF (χ : Nat → Color) (w : World) (sz : Nat) : List PV → List Value → Prop
  | [], us => us = []
  | x :: xs, us => ∃ u r, us = u.cells.toList ++ r ∧ u.cells.size = sz ∧ (∀ y ∈ u.cells.toList, y.oneCell' = true) ∧ RP χ w x u ∧ RF χ w sz xs r
end

/-- The entries of a map. -/
def RM (χ : Nat → Color) (w : World) : List (PV × PV) → List MapEntry → Prop
  | [], l => l = []
  | (k, v) :: r, l => ∃ e t, l = e :: t ∧ RP χ w k e.key ∧ RP χ w v e.val ∧ RM χ w r t

abbrev Gh := Nat → Option Hd

mutual
def RS (χ : Nat → Color) (w : World) (G : Gh) : SV → Value → Prop
  | .pure p, u => RP χ w p u
  | .ptr o k, u => ∃ g, G o = some (.fix g) ∧ u = .pointer (some ⟨g, k, none⟩)
  | .vref o n, u => u.oneCell' = true ∧ ∃ m h, G o = some (.ver m h) ∧ n ≤ m ∧ (n = m → u = h)
  | .eptr o n sz i off, u => ∃ ad, u = .pointer (some ad) ∧ ∃ m h, G o = some (.ver m h) ∧ n ≤ m ∧ (n = m → ∃ g l c, h = .slice (some ⟨g, 0, none⟩) l c ∧ ad = ⟨g, i * sz + off, none⟩)
  | .ipt cs, u => ∃ ad us, u = .pointer (some ad) ∧ RL χ w cs us ∧ Cells χ w (some ad) us
  | .mref o, u => ∃ g, G o = some (.fix g) ∧ u = .map (some g)
  | .agg cs, u => ∃ us : List Value, u = .agg us.toArray ∧ RSL χ w G cs us
  | .tup cs, u => ∃ us : List Value, u = .tuple us.toArray ∧ RTL χ w G cs us
  | .clo f cs, u => ∃ us : List Value, u = .func (.func f) #[] us.toArray ∧ RTL χ w G cs us
  | .dead, _ => True
  | .lit sz xs, u => RP χ w (.list sz false xs) u ∧ ∃ A, u = .slice A xs.length xs.length
  | .sref o k n, u => ∃ g c, G o = some (.fix g) ∧ u = .slice (some ⟨g, k, none⟩) n c ∧ n ≤ c ∧ c ≤ maxLen
  | .yld o, u => ∃ l, G o = some (.fix l) ∧ u = .func (.yield l) #[] #[]
  | .bnd f cs, u => ∃ us : List Value, u = .func (.func f) us.toArray #[] ∧ RTL χ w G cs us
def RSL (χ : Nat → Color) (w : World) (G : Gh) : List SV → List Value → Prop
  | [], us => us = []
  | c :: cs, us => ∃ u r, us = u :: r ∧ u.oneCell' = true ∧ RS χ w G c u ∧ RSL χ w G cs r
def RTL (χ : Nat → Color) (w : World) (G : Gh) : List SV → List Value → Prop
  | [], us => us = []
  | c :: cs, us => ∃ u r, us = u :: r ∧ RS χ w G c u ∧ RTL χ w G cs r
end

/-- An object of the store. -/
def RO (χ : Nat → Color) (w : World) (G : Gh) (o : Nat) : Ob → Prop
  | .cells t cs => ∃ g us, G o = some (.fix g) ∧ χ g = .own o ∧ w.heap[g]? = some (.cells (List.toArray us) t (0, 0)) ∧ RSL χ w G cs us
  | .vec n e sz nl xs => ∃ h us, G o = some (.ver n h) ∧ w.ownsRow 0 e sz h xs.length us ∧ RF χ w sz xs us ∧ (nl = true ↔ h = .slice none 0 0) ∧ ∀ g, h.ownBlock = some g → χ g = .own o
  | .fro n sz nl xs => ∃ h, G o = some (.ver n h) ∧ RP χ w (.list sz nl xs) h
  | .gone => True
  | .row t n xs => ∃ g us vs, G o = some (.fix g) ∧ χ g = .own o ∧ w.heap[g]? = some (.cells (List.toArray (us ++ vs)) t (0, 0)) ∧ us.length = n ∧ RL χ w xs us
  | .loop env ps asg body s pend => ∃ l us fn D, G o = some (.fix l) ∧ χ l = .own o ∧ w.heap[l]? = some (.loop { state := s, pending := pend, fn := fn, tmps := List.toArray us, params := ps, assign := asg, body := body, defers := D }) ∧ RTL χ w G env us
  | .map es => ∃ g es' clock, G o = some (.fix g) ∧ χ g = .own o ∧ w.heap[g]? = some (.map (List.toArray es') clock) ∧ RM χ w es es' ∧ (∀ e ∈ es', e.born < clock) ∧ (es'.map (·.born)).Nodup

def RSt (χ : Nat → Color) (w : World) (G : Gh) (st : List Ob) : Prop := ∀ o ob, st[o]? = some ob → RO χ w G o ob

/-- What a call may not touch. -/
structure Fr (χ0 : Nat → Color) (w0 : World) (χ : Nat → Color) (w : World) : Prop where
  os : w.os = w0.os
  tape : w.tape = w0.tape
  output : w.output = w0.output
  size : w0.heap.size ≤ w.heap.size
  imm : ∀ b, b < w0.heap.size → χ0 b = .imm → χ b = .imm ∧ w.heap[b]? = w0.heap[b]?
  other : ∀ b, b < w0.heap.size → χ0 b = .other → χ b = .other ∧ w.heap[b]? = w0.heap[b]?

/-- Objects that were there are there still. -/
def GLe (k : Nat) (G G' : Gh) : Prop := ∀ o, o < k →
  (∀ g, G o = some (.fix g) → G' o = some (.fix g)) ∧
  (∀ n h, G o = some (.ver n h) → ∃ m h', G' o = some (.ver m h') ∧ n ≤ m ∧ (n = m → h' = h))

/-- What a walk goes by: how many objects came in; the calls that are put off; is it a round's frame. -/
structure Kx where
  n : Nat
  dss : List SV := []
  rnd : Bool := false

/-- The start of a call. -/
structure Ent where
  χ : Nat → Color
  w : World
  G : Gh
  k : Kx
  dvs : List Value
  ro : Option Nat

/-- A call put off, of a function value without arguments. -/
def dfOf : Value → Deferred
  | .func fn first captured => { target := .fn fn captured, args := first }
  | _ => { target := .nil, args := #[] }

/-- A mark of a range over a function, whose block holds nothing. -/
def Mark (χ : Nat → Color) (w : World) (b0 : Nat) (d : Deferred) : Prop := ∃ r, d = { target := .collected r, args := #[] } ∧ χ r = .mrk ∧ b0 ≤ r ∧ w.heap[r]? = some (.deferred (some []))

/-- The calls that are put off, and marks. -/
structure RD (E : Ent) (χ : Nat → Color) (w : World) (G : Gh) (ds : List Deferred) : Prop where
  vals : RTL χ w G E.k.dss E.dvs
  ro : E.k.rnd = false → E.ro = none
  marks : ∃ pre, ds = pre ++ E.dvs.map dfOf ∧ (∀ d ∈ pre, Mark χ w E.w.heap.size d) ∧ pre.Nodup

/-- A symbolic state fits a concrete one, within a call. -/
def Rel (E : Ent) (σ : St) (a : Act) (w : World) : Prop :=
  ∃ χ G, RTL χ w G σ.env a.tmps.toList ∧ RSt χ w G σ.st ∧ Fr E.χ E.w χ w ∧ RD E χ w G a.defers ∧ E.k.n ≤ σ.st.length ∧ GLe E.k.n E.G G ∧ (∀ o, σ.st.length ≤ o → G o = none)

end Go.Sy
