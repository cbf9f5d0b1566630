/- Part 1 of 8: the walks and laws on which the last part rests. No conditions. -/
import Derived.WalkKit
import Derived.Lib.LaidTab
import Derived.Lib.Space
import Derived.Lib.ItoaNum
import Derived.KernelRfl
import Derived.Maps.AppendAt
import Derived.RangeFuncLeaves
import Derived.OrdersIn
import Derived.TacticsIn
import Derived.Sort.LoopGhostIn
import Derived.LoopNIn
import Derived.RangeFuncRecord
import Derived.Great.BuildSlice
import Derived.Laws.MakeOwn
import Derived.Lib.ConvBytes
import Derived.Lib.AppendStr
/- What is told of package-level variables: facts that stay as long as nobody writes. -/
set_option linter.all false
set_option maxHeartbeats 4000000
namespace Go.Sy

/-- Who a block belongs to. -/
inductive Color where
  | imm | own (o : Nat) | other | mrk
  deriving DecidableEq

/-- What cannot be turned is there still. -/
def Keep (χ : Nat → Color) (w : World) (χ' : Nat → Color) (w' : World) : Prop :=
  ∀ b, b < w.heap.size → χ b = .imm → χ' b = .imm ∧ w'.heap[b]? = w.heap[b]?

/-- A fact on memory that stays. -/
structure GFact where
  holds : (Nat → Color) → World → Prop
  mono : ∀ χ w χ' w', Keep χ w χ' w' → holds χ w → holds χ' w'

/-- A variable's cells, in a block that nobody writes. -/
def TabAt (g : Nat) (cs : Array Value) (χ : Nat → Color) (w : World) : Prop := χ g = .imm ∧ ∃ t z, w.heap[g]? = some (.cells cs t z)
theorem TabAt.mono {g : Nat} {cs : Array Value} {χ χ' : Nat → Color} {w w' : World} (hk : Keep χ w χ' w') (h : TabAt g cs χ w) : TabAt g cs χ' w' := by
  obtain ⟨h1, t, z, h2⟩ := h
  obtain ⟨h3, h4⟩ := hk g (Array.getElem?_eq_some_iff.1 h2).1 h1
  exact ⟨h3, t, z, by rw [h4]; exact h2⟩
/-- A table of numbers. -/
def tabFact (g : Nat) (k : IntKind) (zs : List Int) : GFact := ⟨TabAt g (zs.map fun z => Value.int k z).toArray, fun _ _ _ _ => TabAt.mono⟩
theorem TabAt.tabIs {P : Program} {name : String} {g : Nat} {k : IntKind} {zs : List Int} {χ : Nat → Color} {w : World} (hg : P.globalNamed name = some g) (h : TabAt g (zs.map fun z => Value.int k z).toArray χ w) : Lib.TabIs P w name k zs := by
  obtain ⟨_, t, z, h⟩ := h
  unfold Lib.TabIs World.var?
  rw [hg]
  simp [h]
theorem TabAt.of_tabIs {P : Program} {name : String} {g : Nat} {k : IntKind} {zs : List Int} {χ : Nat → Color} {w : World} (hg : P.globalNamed name = some g) (hc : χ g = .imm) (h : Lib.TabIs P w name k zs) : TabAt g (zs.map fun z => Value.int k z).toArray χ w := by
  unfold Lib.TabIs World.var? at h
  rw [hg] at h
  refine ⟨hc, ?_⟩
  simp only [Option.bind_some] at h
  split at h
  · rename_i cs t z e
    cases h
    exact ⟨t, z, e⟩
  · cases h

/-- What this dump's walks are told of its variables. -/
def glFacts : List GFact := [tabFact 2 .u8 Lib.asciiSpaceTab, tabFact 0 .u64 Lib.pow10Tab]
def Gl (χ : Nat → Color) (w : World) : Prop := ∀ p ∈ glFacts, p.holds χ w
theorem Gl.mono {χ χ' : Nat → Color} {w w' : World} (hk : Keep χ w χ' w') (h : Gl χ w) : Gl χ' w' := fun p hp => p.mono _ _ _ _ hk (h p hp)

end Go.Sy
/- Symbolic states over the model: pure values, symbolic slots and objects, and what it means that a concrete state fits a symbolic one. -/
set_option linter.all false
set_option maxHeartbeats 4000000
namespace Go.Sy
open Go.RowKit

/-- A value that no write can turn. -/
inductive PV where
  | val (v : Value)
  | agg (cs : List PV)
  | list (sz : Nat) (nl : Bool) (xs : List PV)
  deriving Inhabited

/-- Where an object lies: a block that stays, or a slice's head with its number. -/
inductive Hd where
  | fix (g : Nat)
  | ver (n : Nat) (h : Value)

inductive SV where
  | pure (p : PV)
  | ptr (o k : Nat)
  | vref (o n : Nat)
  | eptr (o n sz i off : Nat)
  | ipt (cs : List PV)
  | mref (o : Nat)
  | agg (cs : List SV)
  | tup (cs : List SV)
  | clo (f : FuncId) (caps : List SV)
  | dead
  | lit (sz : Nat) (xs : List PV)
  | sref (o k n : Nat)
  | yld (o : Nat)
  | bnd (f : FuncId) (first : List SV)
  deriving Inhabited

inductive Ob where
  | cells (t : TypeId) (cs : List SV)
  | vec (n : Nat) (e : TypeId) (sz : Nat) (nl : Bool) (xs : List PV)
  | fro (n : Nat) (sz : Nat) (nl : Bool) (xs : List PV)
  | gone
  | row (t : TypeId) (n : Nat) (xs : List PV)
  | loop (env : List SV) (ps : Array Tmp) (asg body : Code) (s : LoopState) (pend : Option Code)
  | map (es : List (PV × PV))
  | iter (mo : Nat) (es left : List (PV × PV)) (cur : Option (PV × PV))
  deriving Inhabited

structure St where
  env : List SV
  st : List Ob

/-- The cells at an address are these, and nobody writes there. -/
def Cells (χ : Nat → Color) (w : World) (A : Option Addr) (us : List Value) : Prop :=
  ∀ k u, us[k]? = some u → ∃ ad, A = some ad ∧ χ ad.block = .imm ∧ w.cell? (ad.add k) = some u

mutual
def RP (χ : Nat → Color) (w : World) : PV → Value → Prop
  | .val v, u => u = v
  | .agg cs, u => ∃ us : List Value, u = .agg us.toArray ∧ RL χ w cs us
  | .list sz nl xs, u => ∃ A c us, u = .slice A xs.length c ∧ xs.length ≤ c ∧ c ≤ maxLen ∧ (A = none → c = 0) ∧ (nl = true ↔ A = none) ∧ RF χ w sz xs us ∧ Cells χ w A us
def RL (χ : Nat → Color) (w : World) : List PV → List Value → Prop
  | [], us => us = []
  | c :: cs, us => ∃ u r, us = u :: r ∧ u.oneCell' = true ∧ RP χ w c u ∧ RL χ w cs r
def RF (χ : Nat → Color) (w : World) (sz : Nat) : List PV → List Value → Prop
  | [], us => us = []
  | x :: xs, us => ∃ u r, us = u.cells.toList ++ r ∧ u.cells.size = sz ∧ (∀ y ∈ u.cells.toList, y.oneCell' = true) ∧ RP χ w x u ∧ RF χ w sz xs r
end

/-- The entries of a map. -/
def RM (χ : Nat → Color) (w : World) : List (PV × PV) → List MapEntry → Prop
  | [], l => l = []
  | (k, v) :: r, l => ∃ e t, l = e :: t ∧ RP χ w k e.key ∧ RP χ w v e.val ∧ RM χ w r t

abbrev Gh := Nat → Option Hd

mutual
def RS (χ : Nat → Color) (w : World) (G : Gh) : SV → Value → Prop
  | .pure p, u => RP χ w p u
  | .ptr o k, u => ∃ g, G o = some (.fix g) ∧ u = .pointer (some ⟨g, k, none⟩)
  | .vref o n, u => u.oneCell' = true ∧ ∃ m h, G o = some (.ver m h) ∧ n ≤ m ∧ (n = m → u = h)
  | .eptr o n sz i off, u => ∃ ad, u = .pointer (some ad) ∧ ∃ m h, G o = some (.ver m h) ∧ n ≤ m ∧ (n = m → ∃ g l c, h = .slice (some ⟨g, 0, none⟩) l c ∧ ad = ⟨g, i * sz + off, none⟩)
  | .ipt cs, u => ∃ ad us, u = .pointer (some ad) ∧ RL χ w cs us ∧ Cells χ w (some ad) us
  | .mref o, u => ∃ g, G o = some (.fix g) ∧ u = .map (some g)
  | .agg cs, u => ∃ us : List Value, u = .agg us.toArray ∧ RSL χ w G cs us
  | .tup cs, u => ∃ us : List Value, u = .tuple us.toArray ∧ RTL χ w G cs us
  | .clo f cs, u => ∃ us : List Value, u = .func (.func f) #[] us.toArray ∧ RTL χ w G cs us
  | .dead, _ => True
  | .lit sz xs, u => RP χ w (.list sz false xs) u ∧ ∃ A, u = .slice A xs.length xs.length
  | .sref o k n, u => ∃ g c, G o = some (.fix g) ∧ u = .slice (some ⟨g, k, none⟩) n c ∧ n ≤ c ∧ c ≤ maxLen
  | .yld o, u => ∃ l, G o = some (.fix l) ∧ u = .func (.yield l) #[] #[]
  | .bnd f cs, u => ∃ us : List Value, u = .func (.func f) us.toArray #[] ∧ RTL χ w G cs us
def RSL (χ : Nat → Color) (w : World) (G : Gh) : List SV → List Value → Prop
  | [], us => us = []
  | c :: cs, us => ∃ u r, us = u :: r ∧ u.oneCell' = true ∧ RS χ w G c u ∧ RSL χ w G cs r
def RTL (χ : Nat → Color) (w : World) (G : Gh) : List SV → List Value → Prop
  | [], us => us = []
  | c :: cs, us => ∃ u r, us = u :: r ∧ RS χ w G c u ∧ RTL χ w G cs r
end

/-- An object of the store. -/
def RO (χ : Nat → Color) (w : World) (G : Gh) (o : Nat) : Ob → Prop
  | .cells t cs => ∃ g us, G o = some (.fix g) ∧ χ g = .own o ∧ w.heap[g]? = some (.cells (List.toArray us) t (0, 0)) ∧ RSL χ w G cs us
  | .vec n e sz nl xs => ∃ h us, G o = some (.ver n h) ∧ w.ownsRow 0 e sz h xs.length us ∧ RF χ w sz xs us ∧ (nl = true ↔ h = .slice none 0 0) ∧ ∀ g, h.ownBlock = some g → χ g = .own o
  | .fro n sz nl xs => ∃ h, G o = some (.ver n h) ∧ RP χ w (.list sz nl xs) h
  | .gone => True
  | .row t n xs => ∃ g us vs, G o = some (.fix g) ∧ χ g = .own o ∧ w.heap[g]? = some (.cells (List.toArray (us ++ vs)) t (0, 0)) ∧ us.length = n ∧ RL χ w xs us
  | .loop env ps asg body s pend => ∃ l us fn D, G o = some (.fix l) ∧ χ l = .own o ∧ w.heap[l]? = some (.loop { state := s, pending := pend, fn := fn, tmps := List.toArray us, params := ps, assign := asg, body := body, defers := D }) ∧ RTL χ w G env us
  | .map es => ∃ g es' clock, G o = some (.fix g) ∧ χ g = .own o ∧ w.heap[g]? = some (.map (List.toArray es') clock) ∧ RM χ w es es' ∧ (∀ e ∈ es', e.born < clock) ∧ (es'.map (·.born)).Nodup
  | .iter mo es left cur => ∃ r g es' clock since seen c0, G o = some (.fix r) ∧ G mo = some (.fix g) ∧ χ r = .own o ∧ χ g = .own o ∧ w.heap[g]? = some (.map (List.toArray es') clock) ∧ RM χ w es es' ∧ (∀ e ∈ es', e.born < clock) ∧ (es'.map (·.born)).Nodup ∧
      w.heap[r]? = some (.mapIter (some g) since seen c0) ∧ (∀ x ∈ es', x.born < since) ∧ since ≤ c0 ∧ since ≤ clock ∧ RM χ w left (es'.filter fun e => !seen.contains e.born) ∧
      ∀ c, cur = some c → c0 = clock ∧ ∃ e seen', seen = Array.push seen' e.born ∧ e ∈ es' ∧ RP χ w c.1 e.key ∧ RP χ w c.2 e.val

def RSt (χ : Nat → Color) (w : World) (G : Gh) (st : List Ob) : Prop := ∀ o ob, st[o]? = some ob → RO χ w G o ob

/-- What a call may not touch. -/
structure Fr (χ0 : Nat → Color) (w0 : World) (χ : Nat → Color) (w : World) : Prop where
  os : w.os = w0.os
  tape : w.tape = w0.tape
  output : w.output = w0.output
  size : w0.heap.size ≤ w.heap.size
  imm : ∀ b, b < w0.heap.size → χ0 b = .imm → χ b = .imm ∧ w.heap[b]? = w0.heap[b]?
  other : ∀ b, b < w0.heap.size → χ0 b = .other → χ b = .other ∧ w.heap[b]? = w0.heap[b]?

theorem Fr.keep {χ0 : Nat → Color} {w0 : World} {χ : Nat → Color} {w : World} (h : Fr χ0 w0 χ w) : Keep χ0 w0 χ w := fun b hb hi => h.imm b hb hi

/-- Objects that were there are there still. -/
def GLe (k : Nat) (G G' : Gh) : Prop := ∀ o, o < k →
  (∀ g, G o = some (.fix g) → G' o = some (.fix g)) ∧
  (∀ n h, G o = some (.ver n h) → ∃ m h', G' o = some (.ver m h') ∧ n ≤ m ∧ (n = m → h' = h))

/-- What a walk goes by: how many objects came in; the calls that are put off; is it a round's frame. -/
structure Kx where
  n : Nat
  dss : List SV := []
  rnd : Bool := false

/-- The start of a call. -/
structure Ent where
  χ : Nat → Color
  w : World
  G : Gh
  k : Kx
  dvs : List Value
  ro : Option Nat
  gl : Gl χ w

/-- A call put off, of a function value without arguments. -/
def dfOf : Value → Deferred
  | .func fn first captured => { target := .fn fn captured, args := first }
  | _ => { target := .nil, args := #[] }

/-- A mark of a range over a function, whose block holds nothing. -/
def Mark (χ : Nat → Color) (w : World) (b0 : Nat) (d : Deferred) : Prop := ∃ r, d = { target := .collected r, args := #[] } ∧ χ r = .mrk ∧ b0 ≤ r ∧ w.heap[r]? = some (.deferred (some []))

/-- The calls that are put off, and marks. -/
structure RD (E : Ent) (χ : Nat → Color) (w : World) (G : Gh) (ds : List Deferred) : Prop where
  vals : RTL χ w G E.k.dss E.dvs
  ro : E.k.rnd = false → E.ro = none
  marks : ∃ pre, ds = pre ++ E.dvs.map dfOf ∧ (∀ d ∈ pre, Mark χ w E.w.heap.size d) ∧ pre.Nodup

/-- A symbolic state fits a concrete one, within a call. -/
def Rel (E : Ent) (σ : St) (a : Act) (w : World) : Prop :=
  ∃ χ G, RTL χ w G σ.env a.tmps.toList ∧ RSt χ w G σ.st ∧ Fr E.χ E.w χ w ∧ RD E χ w G a.defers ∧ E.k.n ≤ σ.st.length ∧ GLe E.k.n E.G G ∧ (∀ o, σ.st.length ≤ o → G o = none)

end Go.Sy
/- What stays true when the world goes on. -/
set_option linter.all false
set_option maxHeartbeats 4000000
namespace Go.Sy
open Go.RowKit

theorem Keep.refl (χ : Nat → Color) (w : World) : Keep χ w χ w := fun _ _ h => ⟨h, rfl⟩

theorem Cells.mono {χ χ' : Nat → Color} {w w' : World} (hk : Keep χ w χ' w') {A : Option Addr} {us : List Value} (h : Cells χ w A us) : Cells χ' w' A us := by
  intro k u hu
  obtain ⟨ad, rfl, hi, hc⟩ := h k u hu
  have hlt := World.block_lt_of_cell? w _ hc
  have hb : (ad.add k).block = ad.block := by unfold Addr.add; split <;> rfl
  rw [hb] at hlt
  obtain ⟨h1, h2⟩ := hk _ hlt hi
  exact ⟨ad, rfl, h1, by rw [World.cell?_of_block (w := w) (by rw [hb]; exact h2)]; exact hc⟩

section
variable {χ χ' : Nat → Color} {w w' : World} (hk : Keep χ w χ' w')
include hk
mutual
theorem RP.mono : ∀ (p : PV) (u : Value), RP χ w p u → RP χ' w' p u
  | .val v, u, h => h
  | .agg cs, u, ⟨us, hu, h⟩ => ⟨us, hu, RL.mono cs us h⟩
  | .list sz nl xs, u, ⟨A, c, us, h1, h2, h3, h4, h5, h6, h7⟩ => ⟨A, c, us, h1, h2, h3, h4, h5, RF.mono sz xs us h6, h7.mono hk⟩
theorem RL.mono : ∀ (cs : List PV) (us : List Value), RL χ w cs us → RL χ' w' cs us
  | [], us, h => h
  | c :: cs, us, ⟨u, r, h1, h2, h3, h4⟩ => ⟨u, r, h1, h2, RP.mono c u h3, RL.mono cs r h4⟩
theorem RF.mono : ∀ (sz : Nat) (xs : List PV) (us : List Value), RF χ w sz xs us → RF χ' w' sz xs us
  | sz, [], us, h => h
  | sz, x :: xs, us, ⟨u, r, h1, h2, h3, h4, h5⟩ => ⟨u, r, h1, h2, h3, RP.mono x u h4, RF.mono sz xs r h5⟩
end
end

theorem RM.mono {χ χ' : Nat → Color} {w w' : World} (hk : Keep χ w χ' w') : ∀ (es : List (PV × PV)) (l : List MapEntry), RM χ w es l → RM χ' w' es l
  | [], l, h => h
  | (k, v) :: r, l, ⟨e, t, h1, h2, h3, h4⟩ => ⟨e, t, h1, RP.mono hk k _ h2, RP.mono hk v _ h3, RM.mono hk r t h4⟩

/-- Heads go on. -/
def GGo (G G' : Gh) : Prop := ∀ o,
  (∀ g, G o = some (.fix g) → G' o = some (.fix g)) ∧
  (∀ n h, G o = some (.ver n h) → ∃ m h', G' o = some (.ver m h') ∧ n ≤ m ∧ (n = m → h' = h))

theorem GGo.refl (G : Gh) : GGo G G := fun _ => ⟨fun _ h => h, fun n h hh => ⟨n, h, hh, Nat.le_refl _, fun _ => rfl⟩⟩

section
variable {χ χ' : Nat → Color} {w w' : World} {G G' : Gh} (hk : Keep χ w χ' w') (hg : GGo G G')
include hk hg
mutual
theorem RS.mono : ∀ (s : SV) (u : Value), RS χ w G s u → RS χ' w' G' s u
  | .pure p, u, h => RP.mono hk p u h
  | .ptr o k, u, ⟨g, h, e⟩ => ⟨g, (hg o).1 g h, e⟩
  | .vref o n, u, ⟨h0, m, h, h1, h2, h3⟩ => by
    obtain ⟨m', h', e, hle, heq⟩ := (hg o).2 m h h1
    exact ⟨h0, m', h', e, by omega, fun hn => by rw [h3 (by omega), heq (by omega)]⟩
  | .eptr o n sz i off, u, ⟨ad, h0, m, h, h1, h2, h3⟩ => by
    obtain ⟨m', h', e, hle, heq⟩ := (hg o).2 m h h1
    exact ⟨ad, h0, m', h', e, by omega, fun hn => by rw [heq (by omega)]; exact h3 (by omega)⟩
  | .ipt cs, u, ⟨ad, us, h1, h2, h3⟩ => ⟨ad, us, h1, RL.mono hk cs us h2, h3.mono hk⟩
  | .mref o, u, ⟨g, h, e⟩ => ⟨g, (hg o).1 g h, e⟩
  | .agg cs, u, ⟨us, h1, h2⟩ => ⟨us, h1, RSL.mono cs us h2⟩
  | .tup cs, u, ⟨us, h1, h2⟩ => ⟨us, h1, RTL.mono cs us h2⟩
  | .clo f cs, u, ⟨us, h1, h2⟩ => ⟨us, h1, RTL.mono cs us h2⟩
  | .dead, u, h => trivial
  | .lit sz xs, u, ⟨h, e⟩ => ⟨RP.mono hk _ u h, e⟩
  | .sref o k n, u, ⟨g, c, h, e⟩ => ⟨g, c, (hg o).1 g h, e⟩
  | .yld o, u, ⟨l, h, e⟩ => ⟨l, (hg o).1 l h, e⟩
  | .bnd f cs, u, ⟨us, h1, h2⟩ => ⟨us, h1, RTL.mono cs us h2⟩
theorem RSL.mono : ∀ (cs : List SV) (us : List Value), RSL χ w G cs us → RSL χ' w' G' cs us
  | [], us, h => h
  | c :: cs, us, ⟨u, r, h1, h2, h3, h4⟩ => ⟨u, r, h1, h2, RS.mono c u h3, RSL.mono cs r h4⟩
theorem RTL.mono : ∀ (cs : List SV) (us : List Value), RTL χ w G cs us → RTL χ' w' G' cs us
  | [], us, h => h
  | c :: cs, us, ⟨u, r, h1, h2, h3⟩ => ⟨u, r, h1, RS.mono c u h2, RTL.mono cs r h3⟩
end
end

theorem RD.mono {E : Ent} {χ χ' : Nat → Color} {w w' : World} {G G' : Gh} {ds : List Deferred} (hk : Keep χ w χ' w') (hg : GGo G G')
    (hm : ∀ b, b < w.heap.size → χ b = .mrk → χ' b = .mrk ∧ w'.heap[b]? = w.heap[b]?) (h : RD E χ w G ds) : RD E χ' w' G' ds := by
  obtain ⟨h1, h2, pre, h3, h4, h5⟩ := h
  refine ⟨RTL.mono hk hg _ _ h1, h2, pre, h3, fun d hd => ?_, h5⟩
  obtain ⟨r, e1, e2, e3, e4⟩ := h4 d hd
  obtain ⟨e5, e6⟩ := hm r (Array.getElem?_eq_some_iff.1 e4).1 e2
  exact ⟨r, e1, e5, e3, by rw [e6]; exact e4⟩

/-! ### lists -/
section
variable {χ : Nat → Color} {w : World} {G : Gh}

theorem RTL.length : ∀ {cs : List SV} {us : List Value}, RTL χ w G cs us → us.length = cs.length
  | [], us, h => by simp [RTL] at h; simp [h]
  | c :: cs, us, ⟨u, r, h1, h2, h3⟩ => by rw [h1]; simp [RTL.length h3]

theorem RSL.length : ∀ {cs : List SV} {us : List Value}, RSL χ w G cs us → us.length = cs.length
  | [], us, h => by simp [RSL] at h; simp [h]
  | c :: cs, us, ⟨u, r, h1, h2, h3, h4⟩ => by rw [h1]; simp [RSL.length h4]

theorem RL.length : ∀ {cs : List PV} {us : List Value}, RL χ w cs us → us.length = cs.length
  | [], us, h => by simp [RL] at h; simp [h]
  | c :: cs, us, ⟨u, r, h1, h2, h3, h4⟩ => by rw [h1]; simp [RL.length h4]

theorem RTL.get : ∀ {cs : List SV} {us : List Value}, RTL χ w G cs us → ∀ d, RS χ w G (cs.getD d .dead) (us.getD d undef)
  | [], us, h, d => by simp [RS]
  | c :: cs, us, ⟨u, r, h1, h2, h3⟩, d => by
    rw [h1]
    cases d with
    | zero => simpa using h2
    | succ d => simpa using RTL.get h3 d

theorem RTL.set : ∀ {cs : List SV} {us : List Value}, RTL χ w G cs us → ∀ d {s : SV} {v : Value}, RS χ w G s v → RTL χ w G (cs.set d s) (us.set d v)
  | [], us, h, d, s, v, hs => by simp [RTL] at h; subst h; simp [RTL]
  | c :: cs, us, ⟨u, r, h1, h2, h3⟩, d, s, v, hs => by
    rw [h1]
    cases d with
    | zero => exact ⟨v, r, rfl, hs, h3⟩
    | succ d => exact ⟨u, r.set d v, rfl, h2, RTL.set h3 d hs⟩

theorem RTL.append : ∀ {cs : List SV} {us : List Value}, RTL χ w G cs us → ∀ {cs' : List SV} {us' : List Value}, RTL χ w G cs' us' → RTL χ w G (cs ++ cs') (us ++ us')
  | [], us, h, cs', us', h' => by simp [RTL] at h; subst h; simpa using h'
  | c :: cs, us, ⟨u, r, h1, h2, h3⟩, cs', us', h' => ⟨u, r ++ us', by rw [h1]; rfl, h2, RTL.append h3 h'⟩

theorem RTL.replicate_dead (n : Nat) (v : Value) : RTL χ w G (List.replicate n .dead) (List.replicate n v) := by
  induction n with
  | zero => simp [RTL]
  | succ n ih => exact ⟨v, _, rfl, trivial, ih⟩
end

end Go.Sy
/- The conditions under which an operation goes through, and what it leaves, over symbolic states. -/
set_option linter.all false
set_option maxHeartbeats 4000000
namespace Go.Sy
open Go.RowKit

abbrev vI (k : IntKind) (n : Int) : SV := .pure (.val (.int k n))
abbrev vB (b : Bool) : SV := .pure (.val (.bool b))
abbrev vS (s : ByteArray) : SV := .pure (.val (.string s))

def szOf (P : Program) (t : TypeId) : Nat := ((P.info? t).map (·.size)).getD 0
/-- The size of a slice type's elements. -/
def eszOf (P : Program) (t : TypeId) : Nat := match P.underlying t with | some (.slice e) => szOf P e | _ => 0

def ofV1 : Value → PV
  | .slice none 0 0 => .list 0 true []
  | v => .val v
def ofV : Value → PV
  | .agg cs => if cs.toList.all (fun u => u.oneCell') then .agg (cs.toList.map ofV1) else .val (.agg cs)
  | v => ofV1 v

def nilAt (P : Program) (t : TypeId) : SV → SV
  | .pure (.list 0 true []) => .pure (.list (eszOf P t) true [])
  | .lit sz xs => .pure (.list sz false xs)
  | s => s

/-- An operand, in a frame. -/
def St.ev (σ : St) : Operand → SV
  | .tmp t => σ.env.getD t .dead
  | .const v => .pure (ofV v)
  | .global g => .dead
  | .func f => .pure (.val (.func (.func f) #[] #[]))

def St.put (σ : St) (d : Option Tmp) (s : SV) : St :=
  match d with
  | some d => { σ with env := σ.env.set d s }
  | none => σ

/-- A list of parts: pure if each is. -/
def pures : List SV → Option (List PV)
  | [] => some []
  | .pure p :: r => (pures r).map (p :: ·)
  | _ => none
def mkAgg (l : List SV) : SV := match pures l with | some ps => .pure (.agg ps) | none => .agg l

/-- A value's cells. -/
def PV.cells : PV → List PV
  | .agg cs => cs
  | .val (.agg cs) => cs.toList.map .val
  | p => [p]
def SV.cells : SV → List SV
  | .pure p => p.cells.map .pure
  | .agg cs => cs
  | s => [s]
/-- Its cells hold one value each. -/
def PV.one : PV → Bool
  | .val v => v.cells.toList.all fun u => u.oneCell'
  | _ => true
def SV.one : SV → Bool
  | .pure p => p.one
  | .dead | .tup _ => false
  | _ => true

abbrev Res := SV → List Ob → Prop

/-- What must hold, by reckoning. -/
def must (b : Bool) (K : Prop) : Prop := match b with | true => K | false => False
theorem must_iff {b : Bool} {K : Prop} : must b K ↔ b = true ∧ K := by cases b <;> simp [must]

/-! The operations on bits, under names of their own. -/
def iShl (k : IntKind) (a b : Int) : Int := k.wrap (a * 2 ^ (min b.toNat k.bits))
def iShr (k : IntKind) (a b : Int) : Int := a.fdiv (2 ^ (min b.toNat k.bits))
def iAnd (k : IntKind) (a b : Int) : Int := k.wrap (BitVec.ofInt k.bits a &&& BitVec.ofInt k.bits b).toNat
def iOr (k : IntKind) (a b : Int) : Int := k.wrap (BitVec.ofInt k.bits a ||| BitVec.ofInt k.bits b).toNat
def iXor (k : IntKind) (a b : Int) : Int := k.wrap (BitVec.ofInt k.bits a ^^^ BitVec.ofInt k.bits b).toNat
def iAndNot (k : IntKind) (a b : Int) : Int := k.wrap (BitVec.ofInt k.bits a &&& ~~~(BitVec.ofInt k.bits b)).toNat

/-! Equality of scalars, and of what is made of scalars alone. -/
def eqSc (d : TypeDesc) (p q : PV) : Option Bool :=
  match d, p, q with
  | .bool, .val (.bool a), .val (.bool b) => some (a == b)
  | .int _, .val (.int k a), .val (.int k' b) => match decide (k = k') with | true => some (a == b) | false => none
  | .string, .val (.string a), .val (.string b) => some (a.toList == b.toList)
  | _, _, _ => none
def eqCs : List TypeDesc → List PV → List PV → Option Bool
  | [], [], [] => some true
  | d :: ds, x :: xs, y :: ys => match eqSc d x y with
    | some a => match eqCs ds xs ys with
      | some b => some (a && b)
      | none => none
    | none => none
  | _, _, _ => none
/-- Is a type kept in several cells? -/
def isAggT (P : Program) (t : TypeId) : Bool := match P.underlying t with | some (.struct _) => true | some (.array _ _) => true | _ => false
def flatF (P : Program) : List Field → Nat → Option (List TypeDesc)
  | [], _ => some []
  | f :: fs, i => match f.name != "_" && f.offset == i && !isAggT P f.type && (P.info? f.type).isSome with
    | true => match P.underlying f.type with
      | some d => match flatF P fs (i + 1) with
        | some r => some (d :: r)
        | none => none
      | none => none
    | false => none
def flatT (P : Program) (t : TypeId) : Option (List TypeDesc) :=
  match P.underlying t with
  | some (.struct fs) => match P.stoodInHeld t with | true => none | false => flatF P fs.toList 0
  | some (.array n e) => match P.underlying e, P.info? e with
    | some d, some i => match !isAggT P e && i.size == 1 && n != 0 with | true => some (List.replicate n d) | false => none
    | _, _ => none
  | _ => none
def eqPV (P : Program) (t : TypeId) (p q : PV) : Option Bool :=
  match p with
  | .agg xs => match q with
    | .agg ys => match flatT P t with
      | some ds => eqCs ds xs ys
      | none => none
    | _ => none
  | p => match P.underlying t with
    | some d => eqSc d p q
    | none => none

/-- The entry of a key, with its place. -/
def findPV (P : Program) (t : TypeId) (k : PV) : List (PV × PV) → Nat → Option (Option (Nat × PV))
  | [], _ => some none
  | e :: es, i => match eqPV P t k e.1 with
    | some true => some (some (i, e.2))
    | some false => findPV P t k es (i + 1)
    | none => none

def isPtrT (P : Program) (t : TypeId) : Bool := match P.underlying t with | some (.pointer _) => true | _ => false

/-- By a truth that is split once. -/
def onB (c : Bool) (R : Bool → Prop) : Prop := match c with | true => R true | false => R false
theorem onB_iff {c : Bool} {R : Bool → Prop} : onB c R ↔ R c := by cases c <;> exact Iff.rfl

def vcBin (P : Program) (op : BinOp) (t : TypeId) (x y : SV) (R : SV → Prop) : Prop :=
  match x, y with
  | .pure (.val (.int k a)), .pure (.val (.int k' b)) =>
    match op with
    | .shl => 0 ≤ b ∧ R (vI k (iShl k a b))
    | .shr => 0 ≤ b ∧ R (vI k (iShr k a b))
    | .add => must (decide (k = k')) <| R (vI k (k.wrap (a + b)))
    | .sub => must (decide (k = k')) <| R (vI k (k.wrap (a - b)))
    | .mul => must (decide (k = k')) <| R (vI k (k.wrap (a * b)))
    | .quo => must (decide (k = k')) <| b ≠ 0 ∧ R (vI k (k.wrap (a.tdiv b)))
    | .rem => must (decide (k = k')) <| b ≠ 0 ∧ R (vI k (a.tmod b))
    | .and => must (decide (k = k')) <| R (vI k (iAnd k a b))
    | .or => must (decide (k = k')) <| R (vI k (iOr k a b))
    | .xor => must (decide (k = k')) <| R (vI k (iXor k a b))
    | .andNot => must (decide (k = k')) <| R (vI k (iAndNot k a b))
    | .eql => must (decide (k = k')) <| onB (a == b) fun b => R (vB b)
    | .neq => must (decide (k = k')) <| onB (a != b) fun b => R (vB b)
    | .lss => must (decide (k = k')) <| onB (decide (a < b)) fun b => R (vB b)
    | .leq => must (decide (k = k')) <| onB (decide (a ≤ b)) fun b => R (vB b)
    | .gtr => must (decide (k = k')) <| onB (decide (a > b)) fun b => R (vB b)
    | .geq => must (decide (k = k')) <| onB (decide (a ≥ b)) fun b => R (vB b)
  | .pure (.val (.string a)), .pure (.val (.string b)) =>
    match op with
    | .add => ((a.size + b.size : Nat) : Int) ≤ 9223372036854775807 ∧ R (vS (a ++ b))
    | .eql => onB (a.toList == b.toList) fun b => R (vB b)
    | .neq => onB (!(a.toList == b.toList)) fun b => R (vB b)
    | .lss => onB (Op.bytesLess a.toList b.toList) fun b => R (vB b)
    | .leq => onB (Op.bytesLess a.toList b.toList || a.toList == b.toList) fun b => R (vB b)
    | .gtr => onB (!(Op.bytesLess a.toList b.toList || a.toList == b.toList)) fun b => R (vB b)
    | .geq => onB (!(Op.bytesLess a.toList b.toList)) fun b => R (vB b)
    | _ => False
  | .pure (.val (.bool a)), .pure (.val (.bool b)) =>
    must (match P.underlying t with | some .bool => true | _ => false) <|
    match op with
    | .eql => onB (a == b) fun b => R (vB b)
    | .neq => onB (!(a == b)) fun b => R (vB b)
    | _ => False
  | .pure (.list _ nl _), .pure (.list 0 true []) =>
    must (eszOf P t != 0) <|
    match op with
    | .eql => onB nl fun b => R (vB b)
    | .neq => onB (!nl) fun b => R (vB b)
    | _ => False
  | .pure (.val (.pointer none)), .pure (.val (.pointer none)) =>
    must (isPtrT P t) <|
    match op with
    | .eql => R (vB true)
    | .neq => R (vB false)
    | _ => False
  | .ptr _ _, .pure (.val (.pointer none)) =>
    must (isPtrT P t) <|
    match op with
    | .eql => R (vB false)
    | .neq => R (vB true)
    | _ => False
  | .pure (.val (.pointer none)), .ptr _ _ =>
    must (isPtrT P t) <|
    match op with
    | .eql => R (vB false)
    | .neq => R (vB true)
    | _ => False
  | .pure (.agg xs), .pure (.agg ys) =>
    match eqPV P t (.agg xs) (.agg ys) with
    | some c => match op with
      | .eql => onB c fun b => R (vB b)
      | .neq => onB (!c) fun b => R (vB b)
      | _ => False
    | none => False
  | _, _ => False

def vcUn (op : UnOp) (x : SV) (R : SV → Prop) : Prop :=
  match op, x with
  | .not, .pure (.val (.bool b)) => R (vB (!b))
  | .neg, .pure (.val (.int k n)) => R (vI k (k.wrap (0 - n)))
  | .xor, .pure (.val (.int k n)) => R (vI k (k.wrap (BitVec.ofInt k.bits (if k.signed then -1 else k.max) ^^^ BitVec.ofInt k.bits n).toNat))
  | _, _ => False

def isU8 (P : Program) (e : TypeId) : Bool := match P.underlying e with | some (.int .u8) => true | _ => false

/-- A slice's elements, by its object. -/
def look (st : List Ob) (o : Nat) : Option (Nat × Nat × Bool × List PV) :=
  match st[o]? with
  | some (.vec m _ sz nl xs) => some (m, sz, nl, xs)
  | some (.fro m sz nl xs) => some (m, sz, nl, xs)
  | _ => none
mutual
/-- The value alone, vecs read as lists. -/
def SV.pv (st : List Ob) : SV → Option PV
  | .pure p => some p
  | .vref o n => match look st o with
    | some (m, sz, nl, xs) => if n = m then some (.list sz nl xs) else none
    | none => none
  | .agg cs => match SV.pvL st cs with | some ps => some (.agg ps) | none => none
  | _ => none
def SV.pvL (st : List Ob) : List SV → Option (List PV)
  | [] => some []
  | c :: cs => match c.pv st, SV.pvL st cs with | some p, some ps => some (p :: ps) | _, _ => none
end
mutual
/-- The store once the vecs in a value are written no more. -/
def SV.frz : SV → List Ob → List Ob
  | .vref o n, st => match st[o]? with
    | some (.vec m e sz nl xs) => if n = m then st.set o (.fro m sz nl xs) else st
    | _ => st
  | .agg cs, st => SV.frzL cs st
  | _, st => st
def SV.frzL : List SV → List Ob → List Ob
  | [], st => st
  | c :: cs, st => SV.frzL cs (c.frz st)
end
/-- A value that goes where nobody writes. -/
def vcPure (qt : Bool) (s : SV) (st : List Ob) (K : PV → List Ob → Prop) : Prop :=
  match qt with
  | true => match s with
    | .pure p => K p st
    | _ => False
  | false => match s.pv st with
    | some p => K p (s.frz st)
    | none => False

/-- A slice's elements, wherever they lie. -/
def vcElems (x : SV) (st : List Ob) (K : Nat → List PV → Prop) : Prop :=
  match x with
  | .pure (.list sz nl xs) => K sz xs
  | .lit sz xs => K sz xs
  | .sref o k n => match st[o]? with
    | some (.row _ m xs) => must (decide (k + n ≤ m)) <| K 1 ((xs.drop k).take n)
    | _ => False
  | .vref o n => match st[o]? with
    | some (.vec m _ sz _ xs) => if n = m then K sz xs else False
    | some (.fro m sz _ xs) => if n = m then K sz xs else False
    | _ => False
  | _ => False

def vcConv (P : Program) (s d : TypeId) (x : SV) (st : List Ob) (R : SV → Prop) : Prop :=
  match x with
  | .pure (.val (.int _ n)) =>
    match P.underlying s, P.underlying d with
    | some (.int _), some (.int k) => R (vI k (k.wrap n))
    | _, _ => False
  | .pure (.val (.string a)) =>
    match P.underlying s, P.underlying d with
    | some .string, some .string => R (vS a)
    | some .string, some (.slice e) => must (isU8 P e) <| a.size ≤ 140737488355328 ∧ R (.pure (.list 1 false (a.data.toList.map fun c => .val (.int .u8 c.toNat))))
    | _, _ => False
  | x =>
    match P.underlying s, P.underlying d with
    | some (.slice e), some .string => must (isU8 P e) <| vcElems x st fun _ xs => (∃ l : List Int, xs = l.map fun n => .val (.int .u8 n)) ∧ ∀ l : List Int, (xs = l.map fun n => .val (.int .u8 n)) → R (vS (strOfNums l))
    | _, _ => False

def vcLen (P : Program) (t : TypeId) (x : SV) (st : List Ob) (R : SV → Prop) : Prop :=
  match P.underlying t with
  | some (.slice _) => match x with
    | .sref _ _ n => R (vI .i64 n)
    | x => vcElems x st fun _ xs => xs.length ≤ 9223372036854775807 → R (vI .i64 xs.length)
  | some .string => match x with
    | .pure (.val (.string s)) => R (vI .i64 s.size)
    | _ => False
  | some (.map _ _) => match x with
    | .mref o => match st[o]? with
      | some (.map es) => R (vI .i64 es.length)
      | _ => False
    | .pure (.val (.map none)) => R (vI .i64 0)
    | _ => False
  | some (.array n _) => R (vI .i64 n)
  | _ => False

/-- append(s, x...) -/
def vcAppend (P : Program) (t t' : TypeId) (s x : SV) (st : List Ob) (R : Res) : Prop :=
  match P.underlying t with
  | some (.slice e) =>
    match P.info? e with
    | some i =>
      must (t' == t && decide (0 < i.size) && decide (0 < i.bytes) && (match i.zero with | some z => z.cells.size == i.size | none => false)) <|
      vcElems x st fun sz' ys =>
        must (sz' == i.size || ys.isEmpty) <|
        match s with
        | .pure (.list _ true []) => ys.length * i.bytes ≤ 140737488355328 ∧ R (.vref st.length 0) (st ++ [.vec 0 e i.size ys.isEmpty ys])
        | .vref o n =>
          match st[o]? with
          | some (.vec m e' sz nl xs) =>
            must (e' == e && sz == i.size && n == m) <| (xs.length + ys.length) * i.bytes ≤ 140737488355328 ∧
              R (.vref o (n + 1)) (st.set o (.vec (n + 1) e sz (nl && ys.isEmpty) (xs ++ ys)))
          | _ => False
        | .lit sz xs => must (sz == i.size) <| (xs.length + ys.length) * i.bytes ≤ 140737488355328 ∧ (ys = [] → R (.lit sz xs) st) ∧ (ys ≠ [] → R (.vref st.length 0) (st ++ [.vec 0 e i.size false (xs ++ ys)]))
        | _ => False
    | none => False
  | _ => False

/-- append(b, s...), s a string, onto a row of one's own. -/
def vcAppendS (P : Program) (t : TypeId) (s x : SV) (st : List Ob) (R : Res) : Prop :=
  match P.underlying t with
  | some (.slice e) =>
    match P.info? e with
    | some i =>
      must (decide (i.size = 1) && decide (i.bytes = 1) && (match i.zero with | some (.int .u8 0) => true | _ => false)) <|
      match x with
      | .pure (.val (.string b)) =>
        match s with
        | .vref o n =>
          match st[o]? with
          | some (.vec m e' sz nl xs) =>
            must (e' == e && sz == 1 && n == m) <| xs.length + b.size ≤ 140737488355328 ∧
              R (.vref o (n + 1)) (st.set o (.vec (n + 1) e 1 (nl && b.data.toList.isEmpty) (xs ++ b.data.toList.map fun c => .val (.int .u8 c.toNat))))
          | _ => False
        | _ => False
      | _ => False
    | none => False
  | _ => False

/-- append(s, x...) onto nothing or onto a row that is full, where nobody will write. -/
def vcAppendQ (P : Program) (t t' : TypeId) (s x : SV) (st : List Ob) (R : SV → Prop) : Prop :=
  match P.underlying t with
  | some (.slice e) =>
    match P.info? e with
    | some i =>
      must (t' == t && decide (0 < i.size) && decide (0 < i.bytes) && (match i.zero with | some z => z.cells.size == i.size | none => false)) <|
      vcElems x st fun sz' ys =>
        must (sz' == i.size || ys.isEmpty) <|
        match s with
        | .pure (.list _ true []) => ys.length * i.bytes ≤ 140737488355328 ∧ R (.pure (.list i.size ys.isEmpty ys))
        | .lit sz xs => must (sz == i.size) <| (xs.length + ys.length) * i.bytes ≤ 140737488355328 ∧ R (.pure (.list i.size false (xs ++ ys)))
        | _ => False
    | none => False
  | _ => False

def vcIndexAddr (P : Program) (t : TypeId) (x i : SV) (st : List Ob) (R : SV → Prop) : Prop :=
  match P.underlying t, i with
  | some (.slice e), .pure (.val (.int _ j)) =>
    match x with
    | .pure (.list sz nl xs) => must (sz == szOf P e && (P.info? e).isSome) <| (0 ≤ j ∧ j < xs.length) ∧ ∀ p, xs[j.toNat]? = some p → R (.ipt p.cells)
    | .vref o n =>
      match st[o]? with
      | some (.vec m _ sz _ xs) => must (sz == szOf P e && (P.info? e).isSome && n == m) <| (0 ≤ j ∧ j < xs.length) ∧ R (.eptr o n sz j.toNat 0)
      | some (.fro m sz _ xs) => must (sz == szOf P e && (P.info? e).isSome && n == m) <| (0 ≤ j ∧ j < xs.length) ∧ ∀ p, xs[j.toNat]? = some p → R (.ipt p.cells)
      | _ => False
    | .sref o k n => must (szOf P e == 1 && (P.info? e).isSome) <| (0 ≤ j ∧ j < n) ∧ R (.ptr o (k + j.toNat))
    | _ => False
  | some (.array n e), .pure (.val (.int _ j)) =>
    must (P.info? e).isSome <| (0 ≤ j ∧ j < n) ∧
    match x with
    | .ptr o k => R (.ptr o (k + j.toNat * szOf P e))
    | .ipt cs => R (.ipt (cs.drop (j.toNat * szOf P e)))
    | .eptr o m sz i off => R (.eptr o m sz i (off + j.toNat * szOf P e))
    | _ => False
  | _, _ => False

def vcLoad (P : Program) (t : TypeId) (x : SV) (st : List Ob) (R : SV → Prop) : Prop :=
  must ((P.underlying t).isSome && (P.info? t).isSome) <|
  match x with
  | .ipt cs => if isAggT P t then must (decide (szOf P t ≤ cs.length)) <| R (.pure (.agg (cs.take (szOf P t)))) else match cs with | c :: _ => R (.pure c) | [] => False
  | .ptr o k => match st[o]? with
    | some (.cells _ cs) => if isAggT P t then must (decide (k + szOf P t ≤ cs.length)) <| R (mkAgg ((cs.drop k).take (szOf P t))) else must (decide (k < cs.length)) <| R (cs.getD k .dead)
    | some (.row _ m xs) => if isAggT P t then must (decide (k + szOf P t ≤ m)) <| R (.pure (.agg ((xs.drop k).take (szOf P t)))) else k < m ∧ ∀ p, xs[k]? = some p → R (.pure p)
    | _ => False
  | .eptr o n sz i off => match st[o]? with
    | some (.vec m _ sz' _ xs) => must (sz == sz' && n == m) <| i < xs.length ∧ ∀ p, xs[i]? = some p →
        if isAggT P t then must (decide (off + szOf P t ≤ p.cells.length)) <| R (.pure (.agg ((p.cells.drop off).take (szOf P t)))) else must (decide (off < p.cells.length)) <| R (.pure (p.cells.getD off (.val undef)))
    | _ => False
  | _ => False

/-- Some cells of a row written. -/
def setAt {α : Type} (l : List α) (k : Nat) : List α → List α
  | [] => l
  | x :: r => setAt (l.set k x) (k + 1) r

def PV.setCells (p : PV) (off : Nat) (cs : List PV) : PV :=
  match p with
  | .agg ps => .agg (setAt ps off cs)
  | .val (.agg a) => .agg (setAt (a.toList.map .val) off cs)
  | _ => cs.getD 0 p

def vcStore (P : Program) (t : TypeId) (x v : SV) (st : List Ob) (R : Res) : Prop :=
  must ((P.underlying t).isSome && (P.info? t).isSome) <|
  match x with
  | .ptr o k => match st[o]? with
    | some (.cells T cs) => must (v.one && v.cells.length == szOf P t && decide (k + szOf P t ≤ cs.length)) <| R .dead (st.set o (.cells T (setAt cs k v.cells)))
    | some (.row T m xs) => vcPure true v st fun q st => must (q.one && q.cells.length == szOf P t) <| k + szOf P t ≤ m ∧ R .dead (st.set o (.row T m (setAt xs k q.cells)))
    | _ => False
  | .eptr o n sz i off => vcPure false v st fun q st => match st[o]? with
    | some (.vec m e sz' nl xs) => must (q.one && sz == sz' && q.cells.length == szOf P t && n == m) <| i < xs.length ∧ ∀ p, xs[i]? = some p →
        must (decide (off + szOf P t ≤ p.cells.length)) (R .dead (st.set o (.vec m e sz' nl (xs.set i (p.setCells off q.cells)))))
    | _ => False
  | _ => False

def vcFieldAddr (P : Program) (t : TypeId) (x : SV) (f : Nat) (R : SV → Prop) : Prop :=
  match P.underlying t with
  | some (.struct fs) =>
    match fs[f]? with
    | some fd =>
      must (szOf P fd.type != 0 && (P.info? fd.type).isSome) <|
      match x with
      | .ptr o k => R (.ptr o (k + fd.offset))
      | .ipt cs => R (.ipt (cs.drop fd.offset))
      | .eptr o n sz i off => R (.eptr o n sz i (off + fd.offset))
      | _ => False
    | none => False
  | _ => False

/-- A part of a struct or an array. -/
def vcPart (P : Program) (t : TypeId) (x : SV) (off : Nat) (R : SV → Prop) : Prop :=
  must ((P.underlying t).isSome && (P.info? t).isSome) <|
  match x with
  | .pure (.agg cs) =>
    if isAggT P t then must (decide (off + szOf P t ≤ cs.length)) <| R (.pure (.agg ((cs.drop off).take (szOf P t))))
    else off < cs.length ∧ ∀ p, cs[off]? = some p → R (.pure p)
  | .agg cs =>
    if isAggT P t then must (decide (off + szOf P t ≤ cs.length)) <| R (mkAgg ((cs.drop off).take (szOf P t)))
    else off < cs.length ∧ ∀ p, cs[off]? = some p → R p
  | _ => False

def vcField (P : Program) (t : TypeId) (x : SV) (f : Nat) (R : SV → Prop) : Prop :=
  match P.underlying t with
  | some (.struct fs) =>
    match fs[f]? with
    | some fd => vcPart P fd.type x fd.offset R
    | none => False
  | _ => False

/-- The byte of a string at a place. -/
def byteAt (s : ByteArray) (i : Nat) : Int := (s.data.toList.getD i 0).toNat

def vcIndex (P : Program) (t : TypeId) (x i : SV) (R : SV → Prop) : Prop :=
  match P.underlying t, i with
  | some .string, .pure (.val (.int _ j)) =>
    match x with
    | .pure (.val (.string s)) => (0 ≤ j ∧ j < s.size) ∧ R (vI .u8 (byteAt s j.toNat))
    | _ => False
  | some (.array n e), .pure (.val (.int _ j)) => (0 ≤ j ∧ j < n) ∧ must (P.info? e).isSome (vcPart P e x (j.toNat * szOf P e) R)
  | _, _ => False

/-- A new variable. -/
def vcBox (t : TypeId) (x : SV) (st : List Ob) (R : Res) : Prop := must x.one <| R (.ptr st.length 0) (st ++ [.cells t x.cells])

def vcAlloc (P : Program) (t : TypeId) (st : List Ob) (R : Res) : Prop :=
  match P.info? t with
  | some i => match i.zero with
    | some z => must (z.cells.toList.all fun u => u.oneCell') <| R (.ptr st.length 0) (st ++ [.cells t (z.cells.toList.map fun u => .pure (ofV1 u))])
    | none => False
  | none => False

/-- Cells written where there is room for them. -/
def setMid (l : List SV) (k : Nat) : List SV → List SV
  | [x] => l.set k x
  | xs => l.take k ++ (xs ++ l.drop (k + xs.length))
def vfill (place : Nat → Option (Nat × Nat)) : List SV → List (Nat × SV) → Option (List SV)
  | cs, [] => some cs
  | cs, (i, v) :: rest =>
    match place i with
    | none => none
    | some (off, size) => if v.one && v.cells.length == size && decide (off + size ≤ cs.length) then vfill place (setMid cs off v.cells) rest else none

def zeroCells (z : Value) : List SV := z.cells.toList.map fun u => .pure (ofV1 u)
def vcBuild (P : Program) (t : TypeId) (parts : List (Nat × SV)) (R : SV → Prop) : Prop :=
  match P.info? t, P.underlying t with
  | some it, some (.array _ e) =>
    match it.zero, P.info? e with
    | some z, some ie => must (z.cells.toList.all fun u => u.oneCell') <|
      match vfill (fun i => some (i * ie.size, ie.size)) (zeroCells z) (parts.map fun (i, v) => (i, nilAt P e v)) with
      | some cs => R (mkAgg cs)
      | none => False
    | _, _ => False
  | some it, some (.struct fields) =>
    match it.zero, fields.toList.mapM (fun f => (P.info? f.type).map fun i => (f.offset, i.size)) with
    | some z, some places => must (z.cells.toList.all fun u => u.oneCell') <|
      match vfill (places.toArray[·]?) (zeroCells z) (parts.map fun (i, v) => (i, match fields[i]? with | some f => nilAt P f.type v | none => v)) with
      | some cs => R (mkAgg cs)
      | none => False
    | _, _ => False
  | _, _ => False

/-- Parts, each an element: pure, in order. -/
def vcParts (P : Program) (qt : Bool) (e : TypeId) : List (Nat × SV) → Nat → List Ob → (List PV → List Ob → Prop) → Prop
  | [], _, st, K => K [] st
  | (i, v) :: rest, n, st, K => must (i == n) <| vcPure qt (nilAt P e v) st fun p st => must (p.one && p.cells.length == szOf P e) <| vcParts P qt e rest (n + 1) st fun ps st => K (p :: ps) st

/-- A slice out of parts: a vec, or a list where nobody will write. -/
def vcBuildSlice (P : Program) (qt : Bool) (t : TypeId) (len : Nat) (parts : List (Nat × SV)) (vec : Bool) (st : List Ob) (R : Res) : Prop :=
  match P.underlying t with
  | some (.slice e) =>
    match P.info? e with
    | some i =>
      must (parts.length == len && decide (len * i.size ≤ 16777216) && decide (0 < i.size) && (match i.zero with | some z => z.cells.size == i.size | none => false)) <|
        vcParts P qt e parts 0 st fun ps st => if vec then R (.vref st.length 0) (st ++ [.vec 0 e i.size false ps]) else R (.lit i.size ps) st
    | none => False
  | _ => False

/-- Are all parts maps? -/
def mrefsB : List (Nat × SV) → Nat → Bool
  | [], n => n != 0
  | x :: r, n => match x.2 with
    | .mref _ => x.1 == n && mrefsB r (n + 1)
    | _ => false
/-- A slice out of maps: cells that nobody else has. -/
def vcBuildRefs (P : Program) (t : TypeId) (len : Nat) (parts : List (Nat × SV)) (st : List Ob) (R : Res) : Prop :=
  match P.underlying t with
  | some (.slice e) =>
    match P.info? e with
    | some i => must (parts.length == len && decide (len ≤ 16777216) && i.size == 1 && (match i.zero with | some z => z.cells.size == i.size | none => false)) <|
        R (.sref st.length 0 len) (st ++ [.cells e (parts.map (·.2))])
    | none => False
  | _ => False

def vcMakeSlice (P : Program) (t : TypeId) (l c : SV) (st : List Ob) (R : Res) : Prop :=
  match P.underlying t, l, c with
  | some (.slice e), .pure (.val (.int .i64 n)), .pure (.val (.int .i64 m)) =>
    match P.info? e with
    | some i => match i.zero with
      | some z => must (decide (0 < i.size) && z.cells.size == i.size && z.cells.toList.all (fun u => u.oneCell')) <|
        (0 ≤ n ∧ n ≤ m ∧ m * i.bytes ≤ 140737488355328 ∧ m ≤ 140737488355328) ∧
          R (.vref st.length 0) (st ++ [.vec 0 e i.size false (List.replicate n.toNat (ofV z))])
      | none => False
    | none => False
  | _, _, _ => False

/-- The bounds of a cut. -/
def vcLow (h : Nat) (lo : Option SV) (K : Nat → Nat → Prop) : Prop :=
  match lo with
  | some (.pure (.val (.int _ i))) => (0 ≤ i ∧ i ≤ h) ∧ K i.toNat h
  | some _ => False
  | none => K 0 h
def vcBounds (n : Nat) (lo hi : Option SV) (K : Nat → Nat → Prop) : Prop :=
  match hi with
  | some (.pure (.val (.int _ i))) => (0 ≤ i ∧ i ≤ n) ∧ vcLow i.toNat lo K
  | some _ => False
  | none => vcLow n lo K

def vcSlice (P : Program) (qt : Bool) (t : TypeId) (x : SV) (lo hi : Option SV) (st : List Ob) (R : Res) : Prop :=
  match P.underlying t, x with
  | some .string, .pure (.val (.string s)) => vcBounds s.size lo hi fun l h => R (vS (s.extract l h)) st
  | some (.slice e), .sref o k n => must (szOf P e == 1 && (P.info? e).isSome) <| vcBounds n lo hi fun l h => l < n ∧ R (.sref o (k + l) (h - l)) st
  | some (.slice e), x => must (P.info? e).isSome <| vcPure qt x st fun p st =>
    match p with
    | .list sz nl xs => must (sz == szOf P e) <| vcBounds xs.length lo hi fun l h => R (.pure (.list sz nl ((xs.drop l).take (h - l)))) st
    | _ => False
  | some (.array n e), .ptr o k => must (szOf P e == 1 && (P.info? e).isSome && decide (n ≤ 140737488355328) && !qt) <|
    match st[o]? with
    | some (.row _ _ _) => vcBounds n lo hi fun l h => l < n ∧ R (.sref o (k + l) (h - l)) st
    | some (.cells T cs) => match pures cs with
      | some ps => vcBounds n lo hi fun l h => l < n ∧ R (.sref o (k + l) (h - l)) (st.set o (.row T cs.length ps))
      | none => False
    | _ => False
  | _, _ => False

/-- min, max of two numbers. -/
def vcMin (x y : SV) (R : SV → Prop) : Prop :=
  match x, y with
  | .pure (.val (.int k a)), .pure (.val (.int _ b)) => R (vI k (min a b))
  | _, _ => False
def vcMax (x y : SV) (R : SV → Prop) : Prop :=
  match x, y with
  | .pure (.val (.int k a)), .pure (.val (.int _ b)) => R (vI k (max a b))
  | _, _ => False

/-- copy(d, x): as many as go. -/
def vcCopy (P : Program) (t : TypeId) (d x : SV) (st : List Ob) (R : Res) : Prop :=
  match P.underlying t with
  | some (.slice e) => must (szOf P e == 1 && (P.info? e).isSome) <|
    vcElems x st fun sz ys => must (sz == 1) <|
      match d with
      | .sref o k n => match st[o]? with
        | some (.row T m xs) => must (decide (k + n ≤ m)) <| R (vI .i64 (min ys.length n : Nat)) (st.set o (.row T m (xs.take k ++ (ys.take n).flatMap PV.cells ++ xs.drop (k + min ys.length n))))
        | _ => False
      | .vref o v => match st[o]? with
        | some (.vec m e' sz nl xs) => must (sz == 1 && v == m) <| R (vI .i64 (min ys.length xs.length : Nat)) (st.set o (.vec m e' sz nl (ys.take xs.length ++ xs.drop (min ys.length xs.length))))
        | _ => False
      | _ => False
  | _ => False

/-- clear(x): a part of a row. -/
def vcClear (P : Program) (t : TypeId) (x : SV) (st : List Ob) (R : Res) : Prop :=
  match P.underlying t with
  | some (.slice e) => match P.info? e with
    | some i => match i.zero with
      | some z => must (i.size == 1 && z.oneCell') <|
        match x with
        | .sref o k n => match st[o]? with
          | some (.row T m xs) => k + n ≤ m ∧ R (.tup []) (st.set o (.row T m (xs.take k ++ List.replicate n (ofV1 z) ++ xs.drop (k + n))))
          | _ => False
        | _ => False
      | none => False
    | none => False
  | _ => False

/-- A map's entry as it is handed on. -/
def lkRes (z : Value) (c : Bool) (r : Option (Nat × PV)) : SV :=
  match r with
  | some x => match c with
    | true => .tup [.pure x.2, vB true]
    | false => .pure x.2
  | none => match c with
    | true => .tup [.pure (ofV z), vB false]
    | false => .pure (ofV z)

/-- A map's type: its keys', its elements' and their zero. -/
def mapT (P : Program) (t : TypeId) : Option (TypeId × Value) :=
  match P.underlying t with
  | some (.map k e) => match P.info? e with
    | some i => match i.zero with
      | some z => some (k, z)
      | none => none
    | none => none
  | _ => none

def vcLookup (P : Program) (t : TypeId) (x k : SV) (c : Bool) (st : List Ob) (R : SV → Prop) : Prop :=
  match mapT P t with
  | some kz => match k with
    | .pure kp => must (eqPV P kz.1 kp kp).isSome <|
      match x with
      | .mref o => match st[o]? with
        | some (.map es) => ∃ r, findPV P kz.1 kp es 0 = some r ∧ R (lkRes kz.2 c r)
        | _ => False
      | .pure (.val (.map none)) => R (lkRes kz.2 c none)
      | _ => False
    | _ => False
  | none => False

/-- An entry set: where the key stood, or behind the others. -/
def setPV (es : List (PV × PV)) (k v : PV) (r : Option (Nat × PV)) : List (PV × PV) :=
  match r with
  | some x => es.set x.1 (k, v)
  | none => es ++ [(k, v)]

def vcMapUpdate (P : Program) (t : TypeId) (x k v : SV) (st : List Ob) (R : Res) : Prop :=
  match mapT P t with
  | some kz => match k with
    | .pure kp => must (eqPV P kz.1 kp kp).isSome <|
      match x with
      | .mref o => vcPure false v st fun vp st => match st[o]? with
        | some (.map es) => ∃ r, findPV P kz.1 kp es 0 = some r ∧ R .dead (st.set o (.map (setPV es kp vp r)))
        | _ => False
      | _ => False
    | _ => False
  | none => False

def delPV (es : List (PV × PV)) (r : Option (Nat × PV)) : List (PV × PV) :=
  match r with
  | some x => es.eraseIdx x.1
  | none => es

def vcDelete (P : Program) (t : TypeId) (x k : SV) (st : List Ob) (R : Res) : Prop :=
  match mapT P t with
  | some kz => match k with
    | .pure kp => must (eqPV P kz.1 kp kp).isSome <|
      match x with
      | .mref o => match st[o]? with
        | some (.map es) => ∃ r, findPV P kz.1 kp es 0 = some r ∧ R (.tup []) (st.set o (.map (delPV es r)))
        | _ => False
      | _ => False
    | _ => False
  | none => False

/-- A map is ranged over: it is lent to the loop. -/
def vcRange (P : Program) (t : TypeId) (x : SV) (st : List Ob) (R : Res) : Prop :=
  match P.underlying t with
  | some (.map _ _) => match x with
    | .mref mo => match st[mo]? with
      | some (.map es) => R (.ptr st.length 0) (st.set mo .gone ++ [.iter mo es es none])
      | _ => False
    | _ => False
  | _ => False
/-- Some entry that is left, or none. -/
def vcNext (x : SV) (st : List Ob) (R : Res) : Prop :=
  match x with
  | .ptr o 0 => match st[o]? with
    | some (.iter mo es left cur) => (left = [] → R (.tup [vB false]) st) ∧ ∀ l1 e l2, left = l1 ++ e :: l2 → R (.tup [vB true, .pure e.1, .pure e.2]) (st.set o (.iter mo es (l1 ++ l2) (some e)))
    | _ => False
  | _ => False
/-- The entry that came last. -/
def vcEntry (x : SV) (st : List Ob) (R : Res) : Prop :=
  match x with
  | .ptr o 0 => match st[o]? with
    | some (.iter mo es left (some e)) => R (.tup [.pure e.1, .pure e.2]) st
    | _ => False
  | _ => False

end Go.Sy
/- The walk over symbolic states: operations, regions, code; calls by their contracts. -/
set_option linter.all false
set_option maxHeartbeats 4000000
namespace Go.Sy
open Go.RowKit

/-- A function with a body. -/
def isFn (P : Program) (f : FuncId) : Prop := ∃ fn, P.funcs[f]? = some fn ∧ fn.body.isSome = true ∧ (fn.name == "runtime.NumGoroutine") = false

/-- A call runs its function's body, or it is answered at once (a function of the library that has no body). -/
def RunsTo (P : Program) (f : FuncId) (args : Array Value) (w : World) (R : Ending → World → Prop) : Prop :=
  (isFn P f ∧ Calls P f args w R) ∨ ∃ v w', (callFunc f args).run P w = .ok (.value v) w' ∧ R (.returned v) w'

/-- **What a call does**: from whatever state the arguments and the objects stand in. -/
def CallOk (P : Program) (f : FuncId) (args : List SV) (st : List Ob) (Q : Res) : Prop :=
  ∀ (χ : Nat → Color) (G : Gh) (w : World) (vs : List Value), Gl χ w → RTL χ w G args vs → RSt χ w G st → (∀ o, st.length ≤ o → G o = none) →
    RunsTo P f vs.toArray w fun e w' => ∃ r v st' χ' G', Q r st' ∧ e = .returned v ∧ RS χ' w' G' r v ∧ RSt χ' w' G' st' ∧ Fr χ w χ' w' ∧ st.length ≤ st'.length ∧ GLe st.length G G' ∧ (∀ o, st'.length ≤ o → G' o = none)

/-- No memory in it. -/
def SV.flat : SV → Bool
  | .pure (.val _) => true
  | .tup cs => cs.all fun | .pure (.val _) => true | _ => false
  | _ => false

/-- A vec read as the list that it is. -/
def SV.fz (st : List Ob) : SV → SV
  | .vref o n => match st[o]? with
    | some (.vec m _ sz nl xs) => if n = m then .pure (.list sz nl xs) else .vref o n
    | some (.fro m sz nl xs) => if n = m then .pure (.list sz nl xs) else .vref o n
    | _ => .vref o n
  | .sref o k n => match st[o]? with
    | some (.row _ m xs) => if k + n ≤ m then .pure (.list 1 false ((xs.drop k).take n)) else .sref o k n
    | _ => .sref o k n
  | .ptr o k => match st[o]? with
    | some (.cells _ cs) => match SV.pvL st cs with
      | some ps => .ipt (ps.drop k)
      | none => .ptr o k
    | _ => .ptr o k
  | s => s

mutual
def SV.rn (m : Nat → Nat) : SV → SV
  | .pure p => .pure p
  | .ptr o k => .ptr (m o) k
  | .vref o n => .vref (m o) n
  | .eptr o n sz i off => .eptr (m o) n sz i off
  | .ipt cs => .ipt cs
  | .mref o => .mref (m o)
  | .agg cs => .agg (SV.rnL m cs)
  | .tup cs => .tup (SV.rnL m cs)
  | .clo f cs => .clo f (SV.rnL m cs)
  | .dead => .dead
  | .lit sz xs => .lit sz xs
  | .sref o k n => .sref (m o) k n
  | .yld o => .yld (m o)
  | .bnd f cs => .bnd f (SV.rnL m cs)
def SV.rnL (m : Nat → Nat) : List SV → List SV
  | [] => []
  | c :: cs => c.rn m :: SV.rnL m cs
end
mutual
/-- It names objects below k alone. -/
def SV.inn (k : Nat) : SV → Bool
  | .pure _ | .ipt _ | .dead | .lit _ _ => true
  | .ptr o _ | .vref o _ | .eptr o _ _ _ _ | .mref o | .sref o _ _ | .yld o => decide (o < k)
  | .agg cs | .tup cs | .clo _ cs | .bnd _ cs => SV.inL k cs
def SV.inL (k : Nat) : List SV → Bool
  | [] => true
  | c :: cs => c.inn k && SV.inL k cs
end
def Ob.rn (m : Nat → Nat) : Ob → Ob
  | .cells t cs => .cells t (SV.rnL m cs)
  | .loop env ps asg body s pend => .loop (SV.rnL m env) ps asg body s pend
  | .iter mo es left cur => .iter (m mo) es left cur
  | o => o
def Ob.inn (k : Nat) : Ob → Bool
  | .cells _ cs => SV.inL k cs
  | .loop env _ _ _ _ _ => SV.inL k env
  | .iter mo _ _ _ => decide (mo < k)
  | _ => true

/-- The callee's numbers of objects, in the caller. -/
def backN (ids : List Nat) (n : Nat) (j : Nat) : Nat := if j < ids.length then ids.getD j 0 else n + (j - ids.length)
/-- The caller's store behind the call. -/
def putAll (m : Nat → Nat) : List Nat → List Ob → List Ob → List Ob
  | [], _, st => st
  | i :: ids, ob :: obs, st => putAll m ids obs (st.set i (ob.rn m))
  | _, [], st => st
def backSt (ids : List Nat) (st st' : List Ob) : List Ob :=
  putAll (backN ids st.length) ids st' st ++ (st'.drop ids.length).map (Ob.rn (backN ids st.length))

/-- A call, by a contract. In a region that draws its order (some q) it makes nothing and its result is told ahead. -/
inductive CallIn (P : Program) (f : FuncId) (args : List SV) (st : List Ob) : Option (SV → Prop) → Res → Prop
  | draw {q : SV → Prop} {R : Res} (h : CallOk P f (args.map (SV.fz st)) [] fun r st' => st' = [] ∧ q r) (hn : SV.inL 0 (args.map (SV.fz st)) = true) (hf : args.map (SV.fz st) = args ∨ ∀ r, q r → r.flat = true) (k : ∀ r, q r → R r st) : CallIn P f args st (some q) R
  | pure {R : Res} (q : SV → Prop) (h : CallOk P f (args.map (SV.fz st)) [] fun r st' => st' = [] ∧ q r) (hn : SV.inL 0 (args.map (SV.fz st)) = true) (hf : args.map (SV.fz st) = args ∨ ∀ r, q r → r.flat = true) (k : ∀ r, q r → R r st) : CallIn P f args st none R
  | obj {R : Res} (ids : List Nat) (args' : List SV) (obs : List Ob) (Q : Res) (hn : ids.Nodup) (hi : ∀ i ∈ ids, i < st.length) (ha : args = SV.rnL (fun j => ids.getD j 0) args') (hb : SV.inL ids.length args' = true)
      (ho : ids.map (fun i => st.getD i .gone) = obs.map (Ob.rn fun j => ids.getD j 0)) (hob : obs.all (Ob.inn ids.length) = true)
      (h : CallOk P f args' obs Q) (k : ∀ r st', Q r st' → R (r.rn (backN ids st.length)) (backSt ids st st')) : CallIn P f args st none R

/-- **What a round of a range over a function does**, where the first object is the loop's record, and it is ready. -/
def RoundOk (P : Program) (args : List SV) (obs : List Ob) (Q : Res) : Prop :=
  ∃ env ps asg body pend rest, obs = .loop env ps asg body .ready pend :: rest ∧ args.length = ps.size ∧
    ∀ (χ : Nat → Color) (G : Gh) (w : World) (vs : List Value), Gl χ w → RTL χ w G args vs → RSt χ w G obs → (∀ o, obs.length ≤ o → G o = none) →
    ∀ (l : Nat) (us : List Value) (fn : FuncId) (D : Nat), G 0 = some (.fix l) → χ l = .own 0 → w.heap[l]? = some (.loop { state := .ready, pending := pend, fn := fn, tmps := us.toArray, params := ps, assign := asg, body := body, defers := D }) → RTL χ w G env us →
      RoundIn { Fence.wide with round := none } 0 P l fn ((ps.zip vs.toArray).foldl (fun tmps (t, a) => tmps.setIfInBounds t a) us.toArray) asg body w
        fun e w' => ∃ r v st' χ' G', Q r st' ∧ e = .returned v ∧ RS χ' w' G' r v ∧ RSt χ' w' G' st' ∧ Fr χ w χ' w' ∧ obs.length ≤ st'.length ∧ GLe obs.length G G' ∧ (∀ o, st'.length ≤ o → G' o = none)

/-- A call of a loop's yield, by a round's contract. -/
inductive YieldIn (P : Program) (o : Nat) (args : List SV) (st : List Ob) (R : Res) : Prop
  | mk (ids : List Nat) (args' : List SV) (obs : List Ob) (Q : Res) (hn : ids.Nodup) (hi : ∀ i ∈ ids, i < st.length) (h0 : ids.head? = some o) (ha : args = SV.rnL (fun j => ids.getD j 0) args') (hb : SV.inL ids.length args' = true)
      (ho : ids.map (fun i => st.getD i .gone) = obs.map (Ob.rn fun j => ids.getD j 0)) (hob : obs.all (Ob.inn ids.length) = true)
      (h : RoundOk P args' obs Q) (k : ∀ r st', Q r st' → R (r.rn (backN ids st.length)) (backSt ids st st')) : YieldIn P o args st R

def argsOf (P : Program) (ρ : Operand → SV) (c : Call) : List SV := (c.args.toList.zip c.argTypes.toList).map fun (x, t) => nilAt P t (ρ x)

/-- A value on its way into a map. -/
def nilAtM (P : Program) (t : TypeId) (s : SV) : SV := match P.underlying t with | some (.map _ e) => nilAt P e s | _ => s

/-- Is this temporary handed to an append as what is appended, or to a call? -/
def handed (ops : Array Oper) (d : Option Tmp) : Bool :=
  match d with
  | none => true
  | some d => ops.toList.any fun o => match o.op with
    | .call c => match c.callee with
      | .builtin .append => match c.args.toList with | _ :: .tmp t :: _ => t == d | _ => false
      | .value _ => c.args.toList.any fun | .tmp t => t == d | _ => false
      | _ => false
    | _ => false

def vcOp (P : Program) (ops : Array Oper) (o : Oper) (ρ : Operand → SV) (st : List Ob) (q : Option (SV → Prop)) (R : Res) : Prop :=
  match o.op with
  | .move x | .assign x => R (nilAt P o.type (ρ x)) st
  | .pick c a b => match ρ c with
    | .pure (.val (.bool t)) => match t with | true => R (ρ a) st | false => R (ρ b) st
    | _ => False
  | .binOp op t x y _ => vcBin P op t (ρ x) (ρ y) fun s => R s st
  | .unOp op _ x => vcUn op (ρ x) fun s => R s st
  | .convert s d x => vcConv P s d (ρ x) st fun s => R s st
  | .extract t i => match ρ t with
    | .tup cs => must (decide (i < cs.length)) <| R (cs.getD i .dead) st
    | _ => False
  | .nilCheck x => match ρ x with
    | .ptr o k => R (.ptr o k) st
    | .ipt cs => R (.ipt cs) st
    | .eptr o n sz i off => R (.eptr o n sz i off) st
    | _ => False
  | .indexAddr t x i => vcIndexAddr P t (ρ x) (ρ i) st fun s => R s st
  | .index t x i => vcIndex P t (ρ x) (ρ i) fun s => R s st
  | .load t x => vcLoad P t (ρ x) st fun s => R s st
  | .box t x => must q.isNone <| vcBox t (nilAt P t (ρ x)) st R
  | .alloc t => must q.isNone <| vcAlloc P t st R
  | .build t parts => vcBuild P t (parts.toList.map fun (i, x) => (i, ρ x)) fun s => R s st
  | .buildSlice t len parts => match q.isNone && mrefsB (parts.toList.map fun (i, x) => (i, ρ x)) 0 with
    | true => vcBuildRefs P t len (parts.toList.map fun (i, x) => (i, ρ x)) st R
    | false => vcBuildSlice P q.isSome t len (parts.toList.map fun (i, x) => (i, ρ x)) (q.isNone && !handed ops o.dst) st R
  | .slice t x lo hi mx => must mx.isNone <| vcSlice P q.isSome t (ρ x) (lo.map ρ) (hi.map ρ) st R
  | .makeMap t r => must (q.isNone && r.isNone) <| R (.mref st.length) (st ++ [.map []])
  | .range t x => must q.isNone <| vcRange P t (ρ x) st R
  | .next x b => must (q.isNone && !b) <| vcNext (ρ x) st R
  | .entry x => must q.isNone <| vcEntry (ρ x) st R
  | .lookup t x k c => vcLookup P t (ρ x) (ρ k) c st fun s => R s st
  | .mapUpdate t x k v => must q.isNone <| vcMapUpdate P t (ρ x) (ρ k) (nilAtM P t (ρ v)) st R
  | .makeSlice t l c => must q.isNone <| vcMakeSlice P t (ρ l) (ρ c) st R
  | .store t x v => must q.isNone <| vcStore P t (ρ x) (nilAt P t (ρ v)) st R
  | .fieldAddr t x f => vcFieldAddr P t (ρ x) f fun s => R s st
  | .field t x f => vcField P t (ρ x) f fun s => R s st
  | .call c =>
    match c.callee with
    | .builtin .len => match c.args.toList, c.argTypes.toList with
      | [x], [t] => vcLen P t (ρ x) st fun s => R s st
      | _, _ => False
    | .builtin .append => match c.args.toList, c.argTypes.toList with
      | [s, x], [t, t'] => match q with
        | none => match P.underlying t' with
          | some .string => vcAppendS P t (ρ s) (ρ x) st R
          | _ => vcAppend P t t' (ρ s) (ρ x) st R
        | some _ => vcAppendQ P t t' (ρ s) (ρ x) st fun s => R s st
      | _, _ => False
    | .builtin .copy => must q.isNone <| match c.args.toList, c.argTypes.toList with
      | [d, x], [t, _] => vcCopy P t (ρ d) (ρ x) st R
      | _, _ => False
    | .builtin .delete => must q.isNone <| match c.args.toList, c.argTypes.toList with
      | [x, k], [t, _] => vcDelete P t (ρ x) (ρ k) st R
      | _, _ => False
    | .builtin .clear => must q.isNone <| match c.args.toList, c.argTypes.toList with
      | [x], [t] => vcClear P t (ρ x) st R
      | _, _ => False
    | .builtin .min => match c.args.toList with
      | [x, y] => vcMin (ρ x) (ρ y) fun s => R s st
      | _ => False
    | .builtin .max => match c.args.toList with
      | [x, y] => vcMax (ρ x) (ρ y) fun s => R s st
      | _ => False
    | .value f => must (c.args.size == c.argTypes.size) <| match ρ f with
      | .pure (.val (.func (.func g) ⟨[]⟩ ⟨[]⟩)) => CallIn P g (argsOf P ρ c) st q R
      | .clo g caps => CallIn P g (argsOf P ρ c ++ caps) st q R
      | .bnd g first => CallIn P g (first ++ argsOf P ρ c) st q R
      | .yld o => must q.isNone <| YieldIn P o (argsOf P ρ c) st R
      | _ => False
    | _ => False
  | .makeFunc fn first caps =>
    match fn with
    | .func g => match first.toList with
      | [] => R (.clo g (caps.toList.map ρ)) st
      | x :: r => must (caps.size == 0) <| R (.bnd g ((x :: r).map ρ)) st
    | _ => False
  | _ => False

/-- A value laid open, so that it is reckoned once. -/
def forceV (s : SV) (K : SV → Prop) : Prop :=
  match s with
  | .pure p => match p with
    | .val v => K (.pure (.val v))
    | .agg cs => K (.pure (.agg cs))
    | .list sz nl xs => K (.pure (.list sz nl xs))
  | .ptr o k => K (.ptr o k)
  | .vref o n => K (.vref o n)
  | .eptr o n sz i off => K (.eptr o n sz i off)
  | .ipt cs => K (.ipt cs)
  | .mref o => K (.mref o)
  | .agg cs => K (.agg cs)
  | .tup cs => K (.tup cs)
  | .clo f cs => K (.clo f cs)
  | .dead => K .dead
  | .lit sz xs => K (.lit sz xs)
  | .sref o k n => K (.sref o k n)
  | .yld o => K (.yld o)
  | .bnd f cs => K (.bnd f cs)
theorem forceV_iff {s : SV} {K : SV → Prop} : forceV s K ↔ K s := by
  cases s with
  | pure p => cases p <;> exact Iff.rfl
  | _ => exact Iff.rfl
def forceL {α : Type} : List α → (List α → Prop) → Prop
  | [], K => K []
  | x :: xs, K => forceL xs fun ys => K (x :: ys)
theorem forceL_iff {α : Type} : ∀ {l : List α} {K : List α → Prop}, forceL l K ↔ K l
  | [], K => Iff.rfl
  | x :: xs, K => by unfold forceL; exact forceL_iff
def forceOb (ob : Ob) (K : Ob → Prop) : Prop :=
  match ob with
  | .cells t cs => forceL cs fun cs => K (.cells t cs)
  | .vec n e sz nl xs => K (.vec n e sz nl xs)
  | .fro n sz nl xs => K (.fro n sz nl xs)
  | .gone => K .gone
  | .row t n xs => K (.row t n xs)
  | .loop env ps asg body s pend => K (.loop env ps asg body s pend)
  | .map es => K (.map es)
  | .iter mo es left cur => K (.iter mo es left cur)
theorem forceOb_iff {ob : Ob} {K : Ob → Prop} : forceOb ob K ↔ K ob := by
  cases ob with
  | cells t cs => exact forceL_iff
  | _ => exact Iff.rfl
def forceSt : List Ob → (List Ob → Prop) → Prop
  | [], K => K []
  | x :: xs, K => forceOb x fun x => forceSt xs fun ys => K (x :: ys)
theorem forceSt_iff : ∀ {l : List Ob} {K : List Ob → Prop}, forceSt l K ↔ K l
  | [], K => Iff.rfl
  | x :: xs, K => by unfold forceSt; rw [forceOb_iff]; exact forceSt_iff
/-- The state behind an operation. -/
def putK (env : List SV) (st : List Ob) (d : Option Tmp) (s : SV) (K : St → Prop) : Prop :=
  match d with
  | some d => forceV s fun s => forceSt st fun st => forceL (env.set d s) fun env => K ⟨env, st⟩
  | none => forceSt st fun st => K ⟨env, st⟩
theorem putK_iff {env : List SV} {st : List Ob} {d : Option Tmp} {s : SV} {K : St → Prop} : putK env st d s K ↔ K (St.put ⟨env, st⟩ d s) := by
  cases d with
  | none => exact forceSt_iff
  | some d => unfold putK; simp only [forceV_iff, forceSt_iff, forceL_iff]; exact Iff.rfl

/-- One operation, its guard ahead. -/
def vcGuard (P : Program) (ops : Array Oper) (o : Oper) (σ : St) (q : Option (SV → Prop)) (K : St → Prop) : Prop :=
  match o.guard with
  | none => vcOp P ops o σ.ev σ.st q fun s st' => putK σ.env st' o.dst s K
  | some (j, b) =>
    match (ops[j]?).bind (·.dst) with
    | none => False
    | some d => match σ.env.getD d .dead with
      | .pure (.val (.bool t)) =>
        match t == b with
        | true => vcOp P ops o σ.ev σ.st q fun s st' => putK σ.env st' o.dst s K
        | false => putK σ.env σ.st o.dst (.tup []) K
      | .tup [] => putK σ.env σ.st o.dst (.tup []) K
      | _ => False

/-- A region that draws its order, in the text's order: the first m operations leave the objects alone. -/
def vcDraw (P : Program) (ops : Array Oper) (m : Nat) (qs : Nat → SV → Prop) : Nat → List Oper → St → (St → Prop) → Prop
  | _, [], σ, K => K σ
  | i, o :: rest, σ, K => vcGuard P ops o σ (if i < m then some (qs i) else none) fun σ' => vcDraw P ops m qs (i + 1) rest σ' K

def vcOps (P : Program) (ops : Array Oper) : List Oper → St → (St → Prop) → Prop
  | [], σ, K => K σ
  | o :: rest, σ, K => vcGuard P ops o σ none fun σ' => vcOps P ops rest σ' K

/-- Nothing is fenced; a round's frame is told of. -/
abbrev FW (ro : Option Nat) : Fence := { Fence.wide with round := ro }

/-- A symbolic state's own condition on a piece of code; k objects came in. -/
def awp (P : Program) (k : Kx) (c : Code) (σ : St) (Q : Exit → St → Prop) : Prop :=
  ∀ (E : Ent) (a : Act) (w : World), E.k = k → Rel E σ a w → c.wpIn (FW E.ro) 0 P (fun e a' w' => ∃ σ', Q e σ' ∧ Rel E σ' a' w') a w

/-- To be shown by hand. -/
inductive Hand (P : Program) (k : Kx) (c : Code) (σ : St) (Q : Exit → St → Prop) : Prop
  | mk (h : awp P k c σ Q)

/-- The next piece of code: a barrier, so that the walk halts between two pieces. -/
inductive Rest (P : Program) (k : Kx) (c : Code) (σ : St) (Q : Exit → St → Prop) : Prop
  | mk (h : awp P k c σ Q)

def vc (P : Program) (k : Kx) : Code → St → (Exit → St → Prop) → Prop
  | .skip, σ, Q => Q .normal σ
  | .seq a b, σ, Q => vc P k a σ fun e σ' => match e with | .normal => Rest P k b σ' Q | e => Q e σ'
  | .cond c a b, σ, Q => match σ.ev c with
    | .pure (.val (.bool t)) => match t with | true => vc P k a σ Q | false => vc P k b σ Q
    | _ => False
  | .block id c, σ, Q => vc P k c σ fun e σ' => match e with | .exit i => if i = id then Q .normal σ' else Q (.exit i) σ' | e => Q e σ'
  | .exit id, σ, Q => Q (.exit id) σ
  | .ret, σ, Q => Q .ret σ
  | .region _ ops false, σ, Q => vcOps P ops ops.toList σ (Q .normal)
  | c, σ, Q => Hand P k c σ Q

end Go.Sy
/- The walk's operations are what the model does: scalars, operands. -/
set_option linter.all false
set_option maxHeartbeats 4000000
namespace Go.Sy
open Go.RowKit

theorem RunsTo.mono {P : Program} {f : FuncId} {args : Array Value} {w : World} {R R' : Ending → World → Prop} (h : RunsTo P f args w R) (hr : ∀ e w', R e w' → R' e w') : RunsTo P f args w R' := by
  rcases h with ⟨h1, h2⟩ | ⟨v, w', h1, h2⟩
  · exact .inl ⟨h1, h2.mono hr⟩
  · exact .inr ⟨v, w', h1, hr _ _ h2⟩

/-- A state that fits, and one value beside it. -/
def Rel2 (E : Ent) (σ : St) (a : Act) (w : World) (s : SV) (v : Value) : Prop :=
  ∃ χ G, (RTL χ w G σ.env a.tmps.toList ∧ RSt χ w G σ.st ∧ Fr E.χ E.w χ w ∧ RD E χ w G a.defers ∧ E.k.n ≤ σ.st.length ∧ GLe E.k.n E.G G ∧ (∀ o, σ.st.length ≤ o → G o = none)) ∧ RS χ w G s v

theorem RP_ofV1 (χ : Nat → Color) (w : World) (v : Value) : RP χ w (ofV1 v) v := by
  unfold ofV1
  split
  · exact ⟨none, 0, [], rfl, Nat.le_refl _, Nat.zero_le _, fun _ => rfl, by simp, by simp [RF], fun k u h => by simp at h⟩
  · exact rfl

theorem RL_ofV1 (χ : Nat → Color) (w : World) : ∀ (us : List Value), (us.all fun u => u.oneCell') = true → RL χ w (us.map ofV1) us
  | [], _ => rfl
  | u :: us, h => by
    simp only [List.all_cons, Bool.and_eq_true] at h
    exact ⟨u, us, rfl, h.1, RP_ofV1 χ w u, RL_ofV1 χ w us h.2⟩

theorem RP_ofV (χ : Nat → Color) (w : World) (v : Value) : RP χ w (ofV v) v := by
  unfold ofV
  split
  · rename_i cs
    split
    · rename_i h
      exact ⟨cs.toList, by simp, RL_ofV1 χ w _ h⟩
    · exact rfl
  · exact RP_ofV1 χ w v

theorem RS_ev {χ : Nat → Color} {w : World} {G : Gh} {σ : St} {a : Act} (h : RTL χ w G σ.env a.tmps.toList) (x : Operand) : RS χ w G (σ.ev x) (a.eval x) := by
  cases x with
  | tmp t =>
    have := h.get t
    simpa [St.ev, Act.eval, Array.getD_eq_getD_getElem?, List.getD_eq_getElem?_getD] using this
  | const v => exact RP_ofV χ w v
  | global g => exact trivial
  | func f => exact rfl

theorem RS_nilAt {χ : Nat → Color} {w : World} {G : Gh} {P : Program} {t : TypeId} {s : SV} {v : Value} (h : RS χ w G s v) : RS χ w G (nilAt P t s) v := by
  unfold nilAt
  split
  · obtain ⟨A, c, us, h1, h2, h3, h4, h5, h6, h7⟩ := h
    refine ⟨A, c, us, h1, h2, h3, h4, h5, ?_, h7⟩
    simpa [RF] using h6
  · exact h.1
  · exact h

theorem Rel.two {E : Ent} {σ : St} {a : Act} {w : World} {s : SV} {v : Value} {o : Option Tmp} (h : Rel2 E σ a w s v) : Rel E (σ.put o s) (a.put o v) w := by
  obtain ⟨χ, G, ⟨h1, h2, h3, h4, h5, h6, h7⟩, hs⟩ := h
  cases o with
  | none => exact ⟨χ, G, h1, h2, h3, h4, h5, h6, h7⟩
  | some d => exact ⟨χ, G, by simpa [Act.put, St.put] using h1.set d hs, h2, h3, h4, h5, h6, h7⟩

section
variable {P : Program} {o : Oper} {a : Act} {w w' : World} {next : Act → World → Prop} {Q : Exit → Act → World → Prop} {v : Value}
theorem wp_value (h : (execOp a.eval o).run P w = .ok (.value v) w') (hk : next (a.put o.dst v) w') : o.wp P a w next Q := by
  unfold Oper.wp; rw [h]; exact hk
theorem wp_skip' (h : (execOp a.eval o).run P w = .ok .skip w') (hk : next (a.put o.dst undef) w') : o.wp P a w next Q := by
  unfold Oper.wp; rw [h]; exact hk
end

@[simp] theorem RS_val {χ : Nat → Color} {w : World} {G : Gh} {v u : Value} : RS χ w G (.pure (.val v)) u ↔ u = v := Iff.rfl

theorem scal {P : Program} {χ : Nat → Color} {w : World} {G : Gh} {R : SV → Prop} {m : Sem Value} {v : Value} (h : R (.pure (.val v))) (hr : m.run P w = .ok v w) :
    ∃ s v, R s ∧ m.run P w = .ok v w ∧ RS χ w G s v := ⟨_, v, h, hr, rfl⟩

theorem equal_bool {P : Program} {t : TypeId} (ht : P.underlying t = some .bool) (a b : Bool) (w : World) : (Op.equal t (.bool a) (.bool b)).run P w = .ok (a == b) w := by
  have h : ∀ d : Nat, (Op.equalIn (d + 1) t (.bool a) (.bool b)).run P w = .ok (a == b) w := fun d => by simp [Op.equalIn, run_underlying ht]
  exact h 9999
theorem equal_nil {P : Program} {t e : TypeId} (ht : P.underlying t = some (.slice e)) (A : Option Addr) (n c n' c' : Nat) (w : World) : (Op.equal t (.slice A n c) (.slice none n' c')).run P w = .ok A.isNone w := by
  have h : ∀ d : Nat, (Op.equalIn (d + 1) t (.slice A n c) (.slice none n' c')).run P w = .ok A.isNone w := fun d => by cases A <;> simp [Op.equalIn, run_underlying ht]
  exact h 9999

theorem min_run {P : Program} {χ : Nat → Color} {w : World} {G : Gh} {x y : SV} {vx vy : Value} {ts : Array TypeId} {t : TypeId} {R : SV → Prop}
    (hx : RS χ w G x vx) (hy : RS χ w G y vy) (h : vcMin x y R) : ∃ s v, R s ∧ (Builtin.min_ ts t #[vx, vy]).run P w = .ok v w ∧ RS χ w G s v := by
  unfold vcMin at h
  split at h
  · rename_i k a k' b
    simp only [RS_val] at hx hy
    subst hx hy
    refine scal h ?_
    have : (if b < a then b else a) = min a b := by split <;> omega
    simp [Builtin.min_, Builtin.min2, this]
  · exact h.elim
theorem max_run {P : Program} {χ : Nat → Color} {w : World} {G : Gh} {x y : SV} {vx vy : Value} {ts : Array TypeId} {t : TypeId} {R : SV → Prop}
    (hx : RS χ w G x vx) (hy : RS χ w G y vy) (h : vcMax x y R) : ∃ s v, R s ∧ (Builtin.max_ ts t #[vx, vy]).run P w = .ok v w ∧ RS χ w G s v := by
  unfold vcMax at h
  split at h
  · rename_i k a k' b
    simp only [RS_val] at hx hy
    subst hx hy
    refine scal h ?_
    have : (if b > a then b else a) = max a b := by split <;> omega
    simp [Builtin.max_, Builtin.max2, this]
  · exact h.elim

theorem un_run {P : Program} {χ : Nat → Color} {w : World} {G : Gh} {op : UnOp} {x : SV} {vx : Value} {R : SV → Prop}
    (hx : RS χ w G x vx) (h : vcUn op x R) : ∃ s v, R s ∧ (Op.unary op vx).run P w = .ok v w ∧ RS χ w G s v := by
  unfold vcUn at h
  split at h
  · simp only [RS_val] at hx; subst hx; exact scal h (by simp [Op.unary])
  · simp only [RS_val] at hx; subst hx; exact scal h (by simp [Op.unary, Op.intArith])
  · simp only [RS_val] at hx; subst hx; exact scal h (by simp [Op.unary, Op.intBits])
  · exact h.elim

end Go.Sy
/- The walk's operations are what the model does: reading. -/
set_option linter.all false
set_option maxHeartbeats 4000000
namespace Go.Sy
open Go.RowKit

section
variable {χ : Nat → Color} {w : World} {G : Gh}

theorem RL_vals : ∀ (us : List Value), (us.all fun u => u.oneCell') = true → RL χ w (us.map .val) us
  | [], _ => rfl
  | u :: us, h => by
    simp only [List.all_cons, Bool.and_eq_true] at h
    exact ⟨u, us, rfl, h.1, rfl, RL_vals us h.2⟩

theorem RL_cells {p : PV} {u : Value} (hp : p.one = true) (h : RP χ w p u) : RL χ w p.cells u.cells.toList := by
  cases p with
  | val v =>
    have h : u = v := h
    subst h
    cases u <;> first
      | exact RL_vals _ (by simpa [PV.one, Value.cells] using hp)
      | exact ⟨_, [], rfl, by simpa [PV.one, Value.cells] using hp, rfl, rfl⟩
  | agg cs =>
    obtain ⟨us, rfl, h⟩ := h
    simpa [PV.cells, Value.cells] using h
  | list sz nl xs =>
    have h' := h
    obtain ⟨A, c, us, rfl, _⟩ := h
    exact ⟨_, [], rfl, rfl, h', rfl⟩

theorem RSL_pures : ∀ {ps : List PV} {us : List Value}, RL χ w ps us → RSL χ w G (ps.map .pure) us
  | [], us, h => h
  | p :: ps, us, ⟨u, r, h1, h2, h3, h4⟩ => ⟨u, r, h1, h2, h3, RSL_pures h4⟩

theorem RSL_cells {s : SV} {u : Value} (hp : s.one = true) (h : RS χ w G s u) : RSL χ w G s.cells u.cells.toList := by
  cases s with
  | pure p => exact RSL_pures (RL_cells hp h)
  | ptr o k => have h' := h; obtain ⟨g, _, rfl⟩ := h; exact ⟨_, [], rfl, rfl, h', rfl⟩
  | vref o n => exact ⟨_, [], by have h0 := h.1; cases u <;> simp_all [Value.cells, Value.oneCell'], h.1, h, rfl⟩
  | eptr o n sz i off => have h' := h; obtain ⟨ad, rfl, _⟩ := h; exact ⟨_, [], rfl, rfl, h', rfl⟩
  | ipt cs => have h' := h; obtain ⟨ad, us, rfl, _⟩ := h; exact ⟨_, [], rfl, rfl, h', rfl⟩
  | mref o => have h' := h; obtain ⟨g, _, rfl⟩ := h; exact ⟨_, [], rfl, rfl, h', rfl⟩
  | agg cs => obtain ⟨us, rfl, h⟩ := h; simpa [SV.cells, Value.cells] using h
  | tup cs => simp [SV.one] at hp
  | clo f cs => have h' := h; obtain ⟨us, rfl, _⟩ := h; exact ⟨_, [], rfl, rfl, h', rfl⟩
  | dead => simp [SV.one] at hp
  | lit sz xs => have h' := h; obtain ⟨_, A, rfl⟩ := h; exact ⟨_, [], rfl, rfl, h', rfl⟩
  | sref o k n => have h' := h; obtain ⟨g, c, _, rfl, _⟩ := h; exact ⟨_, [], rfl, rfl, h', rfl⟩
  | yld o => have h' := h; obtain ⟨g, _, rfl⟩ := h; exact ⟨_, [], rfl, rfl, h', rfl⟩
  | bnd f cs => have h' := h; obtain ⟨us, rfl, _⟩ := h; exact ⟨_, [], rfl, rfl, h', rfl⟩

theorem RL.get : ∀ {cs : List PV} {us : List Value}, RL χ w cs us → ∀ {k : Nat} {p}, cs[k]? = some p → ∃ u, us[k]? = some u ∧ RP χ w p u ∧ u.oneCell' = true
  | [], us, h, k, p, hp => by simp at hp
  | c :: cs, us, ⟨u, r, h1, h2, h3, h4⟩, k, p, hp => by
    subst h1
    cases k with
    | zero => simp at hp; subst hp; exact ⟨u, rfl, h3, h2⟩
    | succ k => simpa using RL.get h4 (by simpa using hp)

theorem RL.drop : ∀ {cs : List PV} {us : List Value}, RL χ w cs us → ∀ k, RL χ w (cs.drop k) (us.drop k)
  | cs, us, h, 0 => by simpa using h
  | [], us, h, k + 1 => by simp [RL] at h; subst h; simp [RL]
  | c :: cs, us, ⟨u, r, h1, h2, h3, h4⟩, k + 1 => by subst h1; simpa using RL.drop h4 k

theorem RL.take : ∀ {cs : List PV} {us : List Value}, RL χ w cs us → ∀ k, RL χ w (cs.take k) (us.take k)
  | cs, us, h, 0 => by simp [RL]
  | [], us, h, k + 1 => by simp [RL] at h; subst h; simp [RL]
  | c :: cs, us, ⟨u, r, h1, h2, h3, h4⟩, k + 1 => by subst h1; exact ⟨u, r.take k, rfl, h2, h3, RL.take h4 k⟩

theorem RSL.get : ∀ {cs : List SV} {us : List Value}, RSL χ w G cs us → ∀ {k : Nat} {p}, cs[k]? = some p → ∃ u, us[k]? = some u ∧ RS χ w G p u ∧ u.oneCell' = true
  | [], us, h, k, p, hp => by simp at hp
  | c :: cs, us, ⟨u, r, h1, h2, h3, h4⟩, k, p, hp => by
    subst h1
    cases k with
    | zero => simp at hp; subst hp; exact ⟨u, rfl, h3, h2⟩
    | succ k => simpa using RSL.get h4 (by simpa using hp)

theorem RSL.drop : ∀ {cs : List SV} {us : List Value}, RSL χ w G cs us → ∀ k, RSL χ w G (cs.drop k) (us.drop k)
  | cs, us, h, 0 => by simpa using h
  | [], us, h, k + 1 => by simp [RSL] at h; subst h; simp [RSL]
  | c :: cs, us, ⟨u, r, h1, h2, h3, h4⟩, k + 1 => by subst h1; simpa using RSL.drop h4 k

theorem RSL.take : ∀ {cs : List SV} {us : List Value}, RSL χ w G cs us → ∀ k, RSL χ w G (cs.take k) (us.take k)
  | cs, us, h, 0 => by simp [RSL]
  | [], us, h, k + 1 => by simp [RSL] at h; subst h; simp [RSL]
  | c :: cs, us, ⟨u, r, h1, h2, h3, h4⟩, k + 1 => by subst h1; exact ⟨u, r.take k, rfl, h2, h3, RSL.take h4 k⟩

theorem RSL.setAt : ∀ {vs : List SV} {ws : List Value}, RSL χ w G vs ws → ∀ {cs : List SV} {us : List Value} (k : Nat), RSL χ w G cs us → RSL χ w G (setAt cs k vs) (setAt us k ws)
  | [], ws, h, cs, us, k, hc => by simp [RSL] at h; subst h; simpa [Sy.setAt] using hc
  | c :: cs', ws, ⟨u, r, h1, h2, h3, h4⟩, cs, us, k, hc => by
    subst h1
    refine RSL.setAt h4 (k + 1) ?_
    have key : ∀ {cs : List SV} {us : List Value} (k : Nat), RSL χ w G cs us → RSL χ w G (cs.set k c) (us.set k u) := by
      intro cs
      induction cs with
      | nil => intro us k h; simp [RSL] at h; subst h; simp [RSL]
      | cons d cs ih =>
        rintro us k ⟨x, r, h1, h2', h3', h4'⟩
        subst h1
        cases k with
        | zero => exact ⟨u, r, rfl, h2, h3, h4'⟩
        | succ k => exact ⟨x, _, rfl, h2', h3', ih k h4'⟩
    exact key k hc

theorem RL.setAt : ∀ {vs : List PV} {ws : List Value}, RL χ w vs ws → ∀ {cs : List PV} {us : List Value} (k : Nat), RL χ w cs us → RL χ w (Sy.setAt cs k vs) (Sy.setAt us k ws)
  | [], ws, h, cs, us, k, hc => by simp [RL] at h; subst h; simpa [Sy.setAt] using hc
  | c :: cs', ws, ⟨u, r, h1, h2, h3, h4⟩, cs, us, k, hc => by
    subst h1
    refine RL.setAt h4 (k + 1) ?_
    have key : ∀ {cs : List PV} {us : List Value} (k : Nat), RL χ w cs us → RL χ w (cs.set k c) (us.set k u) := by
      intro cs
      induction cs with
      | nil => intro us k h; simp [RL] at h; subst h; simp [RL]
      | cons d cs ih =>
        rintro us k ⟨x, r, h1, h2', h3', h4'⟩
        subst h1
        cases k with
        | zero => exact ⟨u, r, rfl, h2, h3, h4'⟩
        | succ k => exact ⟨x, _, rfl, h2', h3', ih k h4'⟩
    exact key k hc

theorem pures_spec : ∀ {l : List SV} {ps : List PV} {us : List Value}, pures l = some ps → RSL χ w G l us → RL χ w ps us
  | [], ps, us, h, hr => by simp [pures] at h; subst h; exact hr
  | s :: l, ps, us, h, ⟨u, r, h1, h2, h3, h4⟩ => by
    cases s <;> simp only [pures, Option.map_eq_some_iff, reduceCtorEq] at h
    obtain ⟨qs, hq, rfl⟩ := h
    exact ⟨u, r, h1, h2, h3, pures_spec hq h4⟩

theorem RS_mkAgg {l : List SV} {us : List Value} (h : RSL χ w G l us) : RS χ w G (mkAgg l) (.agg us.toArray) := by
  unfold mkAgg
  split
  · rename_i ps hp
    exact ⟨us, rfl, pures_spec hp h⟩
  · exact ⟨us, rfl, h⟩

/-! ### elements of a slice -/
theorem RF.get {sz : Nat} : ∀ {xs : List PV} {us : List Value}, RF χ w sz xs us → ∀ {i : Nat} {p}, xs[i]? = some p →
    ∃ u, RP χ w p u ∧ u.cells.size = sz ∧ (∀ y ∈ u.cells.toList, y.oneCell' = true) ∧ us.drop (i * sz) = u.cells.toList ++ us.drop (i * sz + sz)
  | [], us, h, i, p, hp => by simp at hp
  | x :: xs, us, ⟨u, r, h1, h2, h3, h4, h5⟩, i, p, hp => by
    subst h1
    cases i with
    | zero =>
      simp at hp
      subst hp
      refine ⟨u, h4, h2, h3, ?_⟩
      have hl : u.cells.toList.length = sz := by simpa using h2
      simp [List.drop_append, hl]
    | succ i =>
      obtain ⟨v, hv1, hv2, hv3, hv4⟩ := RF.get h5 (i := i) (by simpa using hp)
      refine ⟨v, hv1, hv2, hv3, ?_⟩
      have hl : u.cells.toList.length = sz := by simpa using h2
      have e1 : (i + 1) * sz = sz + i * sz := by rw [Nat.add_mul, Nat.one_mul, Nat.add_comm]
      rw [e1, List.drop_append, List.drop_append, hl]
      have e2 : u.cells.toList.drop (sz + i * sz) = [] := List.drop_eq_nil_of_le (by omega)
      have e3 : u.cells.toList.drop (sz + i * sz + sz) = [] := List.drop_eq_nil_of_le (by omega)
      rw [e2, e3, List.nil_append, List.nil_append, show sz + i * sz - sz = i * sz from by omega, show sz + i * sz + sz - sz = i * sz + sz from by omega]
      exact hv4

theorem RF.len {sz : Nat} : ∀ {xs : List PV} {us : List Value}, RF χ w sz xs us → us.length = xs.length * sz
  | [], us, h => by simp [RF] at h; simp [h]
  | x :: xs, us, ⟨u, r, h1, h2, h3, h4, h5⟩ => by
    subst h1
    rw [List.length_append, RF.len h5, List.length_cons, Nat.add_mul, Nat.one_mul]
    have hl : u.cells.toList.length = sz := by simpa using h2
    omega

theorem RF.append {sz : Nat} : ∀ {xs : List PV} {us : List Value}, RF χ w sz xs us → ∀ {ys : List PV} {vs : List Value}, RF χ w sz ys vs → RF χ w sz (xs ++ ys) (us ++ vs)
  | [], us, h, ys, vs, h' => by simp [RF] at h; subst h; simpa using h'
  | x :: xs, us, ⟨u, r, h1, h2, h3, h4, h5⟩, ys, vs, h' => ⟨u, r ++ vs, by rw [h1, List.append_assoc], h2, h3, h4, RF.append h5 h'⟩

theorem RF.one {sz : Nat} : ∀ {xs : List PV} {us : List Value}, RF χ w sz xs us → ∀ y ∈ us, y.oneCell' = true
  | [], us, h, y, hy => by simp [RF] at h; subst h; simp at hy
  | x :: xs, us, ⟨u, r, h1, h2, h3, h4, h5⟩, y, hy => by
    subst h1
    rcases List.mem_append.1 hy with h | h
    · exact h3 y h
    · exact RF.one h5 y h

theorem RF.drop {sz : Nat} : ∀ {xs : List PV} {us : List Value}, RF χ w sz xs us → ∀ i, RF χ w sz (xs.drop i) (us.drop (i * sz))
  | xs, us, h, 0 => by simpa using h
  | [], us, h, i + 1 => by simp [RF] at h; subst h; simp [RF]
  | x :: xs, us, ⟨u, r, h1, h2, h3, h4, h5⟩, i + 1 => by
    subst h1
    have hl : u.cells.toList.length = sz := by simpa using h2
    have e2 : u.cells.toList.drop (sz + i * sz) = [] := List.drop_eq_nil_of_le (by omega)
    rw [show (i + 1) * sz = sz + i * sz by rw [Nat.add_mul, Nat.one_mul, Nat.add_comm], List.drop_append, hl, e2, List.nil_append, show sz + i * sz - sz = i * sz from by omega]
    simpa using RF.drop h5 i

theorem RF.take {sz : Nat} : ∀ {xs : List PV} {us : List Value}, RF χ w sz xs us → ∀ i, RF χ w sz (xs.take i) (us.take (i * sz))
  | xs, us, h, 0 => by simp [RF]
  | [], us, h, i + 1 => by simp [RF] at h; subst h; simp [RF]
  | x :: xs, us, ⟨u, r, h1, h2, h3, h4, h5⟩, i + 1 => by
    subst h1
    have hl : u.cells.toList.length = sz := by simpa using h2
    refine ⟨u, r.take (i * sz), ?_, h2, h3, h4, RF.take h5 i⟩
    rw [show (i + 1) * sz = sz + i * sz by rw [Nat.add_mul, Nat.one_mul, Nat.add_comm], List.take_append, hl, List.take_of_length_le (by omega), show sz + i * sz - sz = i * sz from by omega]

theorem RF.set {sz : Nat} : ∀ {xs : List PV} {us : List Value}, RF χ w sz xs us → ∀ (i : Nat) {p : PV} {v : Value}, RP χ w p v → v.cells.size = sz → (∀ y ∈ v.cells.toList, y.oneCell' = true) → i < xs.length →
    RF χ w sz (xs.set i p) (us.take (i * sz) ++ v.cells.toList ++ us.drop (i * sz + sz))
  | [], us, h, i, p, v, hp, hs, ho, hi => by simp at hi
  | x :: xs, us, ⟨u, r, h1, h2, h3, h4, h5⟩, i, p, v, hp, hs, ho, hi => by
    subst h1
    have hl : u.cells.toList.length = sz := by simpa using h2
    cases i with
    | zero =>
      refine ⟨v, r, ?_, hs, ho, hp, h5⟩
      simp [List.drop_append, hl]
    | succ i =>
      refine ⟨u, r.take (i * sz) ++ v.cells.toList ++ r.drop (i * sz + sz), ?_, h2, h3, h4, RF.set h5 i hp hs ho (by simpa using hi)⟩
      rw [show (i + 1) * sz = sz + i * sz by rw [Nat.add_mul, Nat.one_mul, Nat.add_comm], List.take_append, hl, List.take_of_length_le (by omega), show sz + i * sz - sz = i * sz from by omega, List.drop_append, hl,
        List.drop_eq_nil_of_le (by omega), List.nil_append, show sz + i * sz + sz - sz = i * sz + sz from by omega]
      simp [List.append_assoc]
end
end Go.Sy
/- The walk's operations are what the model does: loads, addresses, lengths, parts. -/
set_option linter.all false
set_option maxHeartbeats 4000000
namespace Go.Sy
open Go.RowKit

section
variable {P : Program} {χ : Nat → Color} {w : World} {G : Gh} {st : List Ob}

theorem add_add (ad : Addr) (i j : Nat) : (ad.add i).add j = ad.add (i + j) := by
  unfold Addr.add
  by_cases h1 : i = 0 <;> by_cases h2 : j = 0 <;> simp [h1, h2, Nat.add_assoc]
theorem add_blk (ad : Addr) (i : Nat) : (ad.add i).block = ad.block := by unfold Addr.add; split <;> rfl
theorem add_pl (g i j : Nat) : (⟨g, i, none⟩ : Addr).add j = ⟨g, i + j, none⟩ := by unfold Addr.add; split <;> simp_all

theorem isAgg_run {t : TypeId} (h : (P.underlying t).isSome = true) (w : World) : (isAgg t).run P w = .ok (isAggT P t) w := by
  obtain ⟨d, hd⟩ := Option.isSome_iff_exists.1 h
  unfold isAgg isAggT
  simp only [Sem.run_bind, run_underlying hd, Result.andThen_ok, hd]
  cases d <;> rfl
theorem sizeOf_run {t : TypeId} (h : (P.info? t).isSome = true) (w : World) : (sizeOf t).run P w = .ok (szOf P t) w := by
  obtain ⟨d, hd⟩ := Option.isSome_iff_exists.1 h
  simp [sizeOf, typeInfo, szOf, hd]

theorem loadVar_agg {t : TypeId} (h1 : (P.underlying t).isSome = true) (h2 : (P.info? t).isSome = true) (ha : isAggT P t = true) {ad : Addr} {us : List Value} (hl : us.length = szOf P t)
    (hc : ∀ k u, us[k]? = some u → w.cell? (ad.add k) = some u) : (loadVar t ad).run P w = .ok (.agg us.toArray) w := by
  simp [loadVar, isAgg_run h1, ha, sizeOf_run h2, ← hl, run_loadCells_list w ad us hc]
theorem loadVar_one {t : TypeId} (h1 : (P.underlying t).isSome = true) (ha : isAggT P t = false) {ad : Addr} {u : Value} (hc : w.cell? ad = some u) : (loadVar t ad).run P w = .ok u w := by
  simp [loadVar, isAgg_run h1, ha, hc]

theorem Cells.tail {A : Addr} {us : List Value} (h : Cells χ w (some A) us) (k : Nat) : Cells χ w (some (A.add k)) (us.drop k) := by
  intro j u hu
  rw [List.getElem?_drop] at hu
  obtain ⟨ad, e, hi, hc⟩ := h (k + j) u hu
  injection e with e
  subst e
  exact ⟨_, rfl, by rw [add_blk]; exact hi, by rw [add_add]; exact hc⟩

theorem RP.cells_len {p : PV} {u : Value} (h : RP χ w p u) : p.cells.length = u.cells.size := by
  cases p with
  | val v =>
    have h : u = v := h
    subst h
    cases u <;> simp [PV.cells, Value.cells]
  | agg cs =>
    obtain ⟨us, rfl, h⟩ := h
    simp [PV.cells, Value.cells, h.length]
  | list sz nl xs =>
    obtain ⟨A, c, us, rfl, _⟩ := h
    simp [PV.cells, Value.cells]

theorem RP_one {p : PV} {u : Value} (h : RP χ w p u) (ho : ∀ y ∈ u.cells.toList, y.oneCell' = true) : p.one = true := by
  cases p with
  | val v =>
    have h : u = v := h
    subst h
    simp only [PV.one, List.all_eq_true]
    intro y hy
    exact ho y (by simpa using hy)
  | agg cs => rfl
  | list sz nl xs => rfl

/-- The cells of a vec's element. -/
theorem vec_elem {o n e sz : Nat} {nl : Bool} {xs : List PV} (h : RO χ w G o (.vec n e sz nl xs)) {i : Nat} {p : PV} (hp : xs[i]? = some p) :
    ∃ g l c u, G o = some (.ver n (.slice (some ⟨g, 0, none⟩) l c)) ∧ χ g = .own o ∧ RP χ w p u ∧ u.cells.size = sz ∧ (∀ y ∈ u.cells.toList, y.oneCell' = true) ∧ (∀ k v, u.cells.toList[k]? = some v → w.cell? ⟨g, i * sz + k, none⟩ = some v) ∧
      l = xs.length ∧ ∃ cur, w.heap[g]? = some (.cells cur e (0, 0)) ∧ xs.length ≤ c ∧ c ≤ maxLen ∧ cur.size = c * sz ∧ ∃ us, RF χ w sz xs us ∧ cur.toList.take (xs.length * sz) = us ∧ us.drop (i * sz) = u.cells.toList ++ us.drop (i * sz + sz) ∧ nl = false := by
  obtain ⟨h, us, hG, hown, hf, hnl, hcol⟩ := h
  obtain ⟨u, hu1, hu2, hu3, hu4⟩ := hf.get hp
  have hi : i < xs.length := (List.getElem?_eq_some_iff.1 hp).1
  obtain ⟨hl, hrest⟩ := hown
  rcases hrest with ⟨rfl, h0⟩ | ⟨g, c, cur, rfl, _, hg, hle, hm, hcs, htk⟩
  · omega
  · refine ⟨g, _, c, u, hG, hcol g rfl, hu1, hu2, hu3, fun k v hk => ?_, rfl, cur, hg, hle, hm, hcs, us, hf, htk, hu4, by cases nl with | false => rfl | true => exact absurd (hnl.1 rfl) (by simp)⟩
    have hk' : k < sz := by
      have := (List.getElem?_eq_some_iff.1 hk).1
      simp at this
      omega
    have e1 : us[i * sz + k]? = some v := by
      have : (us.drop (i * sz))[k]? = some v := by
        rw [hu4, List.getElem?_append_left (by simpa [hu2] using hk')]
        exact hk
      rwa [List.getElem?_drop] at this
    rw [World.cell?, hg]
    simp only [Option.isSome_none, Bool.false_eq_true, if_false]
    rw [← htk, List.getElem?_take] at e1
    split at e1
    · simpa using e1
    · cases e1

theorem load_run {t : TypeId} {x : SV} {vx : Value} {R : SV → Prop} (hx : RS χ w G x vx) (hst : RSt χ w G st) (h : vcLoad P t x st R) :
    ∃ s v, R s ∧ (Instr.loadAt t vx).run P w = .ok v w ∧ RS χ w G s v := by
  unfold vcLoad at h
  simp only [must_iff, Bool.and_eq_true] at h
  obtain ⟨⟨h1, h2⟩, h⟩ := h
  split at h
  · rename_i cs
    obtain ⟨ad, us, rfl, hl, hc⟩ := hx
    have hc' : ∀ k u, us[k]? = some u → w.cell? (ad.add k) = some u := fun k u hu => by
      obtain ⟨_, e, _, h⟩ := hc k u hu
      injection e with e
      subst e
      exact h
    by_cases ha : isAggT P t = true
    · rw [if_pos ha] at h
      simp only [must_iff, decide_eq_true_eq] at h
      refine ⟨_, .agg (us.take (szOf P t)).toArray, h.2, ?_, ⟨_, rfl, hl.take _⟩⟩
      have hlen := hl.length
      simp only [Instr.loadAt, Instr.sureAddr, Sem.run_bind, Sem.run_pure, Result.andThen_ok]
      exact loadVar_agg h1 h2 ha (by rw [List.length_take]; omega) (fun k u hu => hc' k u (by rw [List.getElem?_take] at hu; split at hu; exact hu; cases hu))
    · rw [if_neg ha] at h
      split at h
      · rename_i c cs'
        obtain ⟨u, r, rfl, _, hr, _⟩ := hl
        refine ⟨_, u, h, ?_, hr⟩
        simp only [Instr.loadAt, Instr.sureAddr, Sem.run_bind, Sem.run_pure, Result.andThen_ok]
        exact loadVar_one h1 (by simpa using ha) (by simpa [Addr.add] using hc' 0 u rfl)
      · exact h.elim
  · rename_i o k
    obtain ⟨g, hG, rfl⟩ := hx
    split at h
    · rename_i T cs hob
      obtain ⟨g', us, hG', hcol, hheap, hl⟩ := hst o _ hob
      rw [hG] at hG'
      injection hG' with hG'
      injection hG' with hG'
      subst hG'
      have hcell : ∀ j u, us[j]? = some u → w.cell? ⟨g, j, none⟩ = some u := fun j u hu => by simp [World.cell?, hheap, hu]
      have hlen := hl.length
      by_cases ha : isAggT P t = true
      · rw [if_pos ha] at h
        simp only [must_iff, decide_eq_true_eq] at h
        refine ⟨_, .agg ((us.drop k).take (szOf P t)).toArray, h.2, ?_, RS_mkAgg ((hl.drop k).take _)⟩
        simp only [Instr.loadAt, Instr.sureAddr, Sem.run_bind, Sem.run_pure, Result.andThen_ok]
        exact loadVar_agg h1 h2 ha (by rw [List.length_take, List.length_drop]; omega) (fun j u hu => by
          rw [List.getElem?_take] at hu
          split at hu
          · rw [List.getElem?_drop] at hu; rw [add_pl]; exact hcell _ _ hu
          · cases hu)
      · rw [if_neg ha] at h
        simp only [must_iff, decide_eq_true_eq] at h
        obtain ⟨u, hu, hr, _⟩ := hl.get (k := k) (p := cs.getD k .dead) (by rw [List.getD_eq_getElem?_getD, List.getElem?_eq_getElem h.1]; rfl)
        refine ⟨_, u, h.2, ?_, hr⟩
        simp only [Instr.loadAt, Instr.sureAddr, Sem.run_bind, Sem.run_pure, Result.andThen_ok]
        exact loadVar_one h1 (by simpa using ha) (hcell _ _ hu)
    · rename_i T m xs hob
      obtain ⟨g', us, vs, hG', hcol, hheap, hum, hl⟩ := hst o _ hob
      rw [hG] at hG'
      injection hG' with hG'
      injection hG' with hG'
      subst hG'
      have hcell : ∀ j u, us[j]? = some u → w.cell? ⟨g, j, none⟩ = some u := fun j u hu => by have hj := (List.getElem?_eq_some_iff.1 hu).1; simp [World.cell?, hheap, List.getElem?_append_left hj, hu]
      have hlen := hl.length
      by_cases ha : isAggT P t = true
      · rw [if_pos ha] at h
        simp only [must_iff, decide_eq_true_eq] at h
        refine ⟨_, .agg ((us.drop k).take (szOf P t)).toArray, h.2, ?_, ⟨_, rfl, (hl.drop k).take _⟩⟩
        simp only [Instr.loadAt, Instr.sureAddr, Sem.run_bind, Sem.run_pure, Result.andThen_ok]
        exact loadVar_agg h1 h2 ha (by rw [List.length_take, List.length_drop]; omega) (fun j u hu => by
          rw [List.getElem?_take] at hu
          split at hu
          · rw [List.getElem?_drop] at hu; rw [add_pl]; exact hcell _ _ hu
          · cases hu)
      · rw [if_neg ha] at h
        have hkl : k < xs.length := by omega
        obtain ⟨u, hu, hr, _⟩ := hl.get (List.getElem?_eq_getElem hkl)
        refine ⟨_, u, h.2 _ (List.getElem?_eq_getElem hkl), ?_, hr⟩
        simp only [Instr.loadAt, Instr.sureAddr, Sem.run_bind, Sem.run_pure, Result.andThen_ok]
        exact loadVar_one h1 (by simpa using ha) (hcell _ _ hu)
    · exact h.elim
  · rename_i o n sz i off
    obtain ⟨ad, rfl, m, hh, hG, hle, hx⟩ := hx
    split at h
    · rename_i m' e sz' nl xs hob
      simp only [must_iff, beq_iff_eq, Bool.and_eq_true] at h
      obtain ⟨⟨rfl, rfl⟩, hi, h⟩ := h
      have hp : xs[i]? = some xs[i] := List.getElem?_eq_getElem hi
      obtain ⟨g, l, c, u, hG', hcol, hr, hsz, hone, hcell, _⟩ := vec_elem (hst o _ hob) hp
      rw [hG] at hG'
      injection hG' with hG'
      injection hG' with e1 e2
      subst e1 e2
      obtain ⟨g', l', c', e3, rfl⟩ := hx rfl
      injection e3 with e3
      injection e3 with e3
      injection e3 with e3
      subst e3
      have h := h _ hp
      have hpl := hr.cells_len
      have hrl := RL_cells (RP_one hr hone) hr
      have hrlen := hrl.length
      by_cases ha : isAggT P t = true
      · rw [if_pos ha] at h
        simp only [must_iff, decide_eq_true_eq] at h
        refine ⟨_, .agg ((u.cells.toList.drop off).take (szOf P t)).toArray, h.2, ?_, ⟨_, rfl, (hrl.drop off).take _⟩⟩
        simp only [Instr.loadAt, Instr.sureAddr, Sem.run_bind, Sem.run_pure, Result.andThen_ok]
        exact loadVar_agg h1 h2 ha (by rw [List.length_take, List.length_drop]; omega) (fun j v hv => by
          rw [List.getElem?_take] at hv
          split at hv
          · rw [List.getElem?_drop] at hv; rw [add_pl, Nat.add_assoc]; exact hcell _ _ hv
          · cases hv)
      · rw [if_neg ha] at h
        simp only [must_iff, decide_eq_true_eq] at h
        obtain ⟨v, hv, hrv, _⟩ := hrl.get (k := off) (p := xs[i].cells.getD off (.val undef)) (by rw [List.getD_eq_getElem?_getD, List.getElem?_eq_getElem h.1]; rfl)
        refine ⟨_, v, h.2, ?_, hrv⟩
        simp only [Instr.loadAt, Instr.sureAddr, Sem.run_bind, Sem.run_pure, Result.andThen_ok]
        exact loadVar_one h1 (by simpa using ha) (hcell _ _ hv)
    · exact h.elim
  · exact h.elim

theorem fieldPlace_run {fd : Field} (h1 : szOf P fd.type ≠ 0) (h2 : (P.info? fd.type).isSome = true) (ad : Addr) (w : World) : (fieldPlace ad fd).run P w = .ok (ad.add fd.offset) w := by
  simp [fieldPlace, sizeOf_run h2, h1]

theorem fieldAddr_run {t : TypeId} {x : SV} {vx : Value} {f : Nat} {R : SV → Prop} (hx : RS χ w G x vx) (h : vcFieldAddr P t x f R) :
    ∃ s v, R s ∧ (Instr.fieldAt t vx f).run P w = .ok v w ∧ RS χ w G s v := by
  unfold vcFieldAddr at h
  split at h
  · rename_i fs hu
    split at h
    · rename_i fd hfd
      simp only [must_iff, Bool.and_eq_true, bne_iff_ne, ne_eq] at h
      obtain ⟨⟨h1, h2⟩, h⟩ := h
      have key : ∀ ad : Addr, (Instr.fieldAt t (.pointer (some ad)) f).run P w = .ok (.pointer (some (ad.add fd.offset))) w := fun ad => by
        simp [Instr.fieldAt, run_underlying hu, hfd, Instr.sureAddr, fieldPlace_run h1 h2]
      split at h
      · obtain ⟨g, hG, rfl⟩ := hx
        exact ⟨_, _, h, key _, g, hG, by rw [add_pl]⟩
      · obtain ⟨ad, us, rfl, hl, hc⟩ := hx
        exact ⟨_, _, h, key _, _, _, rfl, hl.drop _, hc.tail _⟩
      · rename_i o n sz i off
        obtain ⟨ad, rfl, m, hh, hG, hle, hx⟩ := hx
        refine ⟨_, _, h, key _, _, rfl, m, hh, hG, hle, fun hn => ?_⟩
        obtain ⟨g, l, c, e1, rfl⟩ := hx hn
        exact ⟨g, l, c, e1, by rw [add_pl, Nat.add_assoc]⟩
      · exact h.elim
    · exact h.elim
  · exact h.elim

theorem part_run {t : TypeId} {x : SV} {vx : Value} {off : Nat} {R : SV → Prop} (hx : RS χ w G x vx) (h : vcPart P t x off R) :
    ∃ cs, vx = .agg cs ∧ ∃ s v, R s ∧ (part t cs off).run P w = .ok v w ∧ RS χ w G s v := by
  unfold vcPart at h
  simp only [must_iff, Bool.and_eq_true] at h
  obtain ⟨⟨h1, h2⟩, h⟩ := h
  have hag : ∀ us : List Value, isAggT P t = true → (part t us.toArray off).run P w = .ok (.agg ((us.drop off).take (szOf P t)).toArray) w := fun us ha => by
    simp [part, isAgg_run h1, ha, sizeOf_run h2, List.take_drop, Nat.add_comm]
  have hon : ∀ (us : List Value) u, isAggT P t = false → us[off]? = some u → (part t us.toArray off).run P w = .ok u w := fun us u ha hu => by
    simp [part, isAgg_run h1, ha, hu]
  split at h
  · obtain ⟨us, rfl, hl⟩ := hx
    refine ⟨_, rfl, ?_⟩
    by_cases ha : isAggT P t = true
    · rw [if_pos ha] at h
      simp only [must_iff, decide_eq_true_eq] at h
      exact ⟨_, _, h.2, hag us ha, _, rfl, (hl.drop off).take _⟩
    · rw [if_neg ha] at h
      obtain ⟨u, hu, hr, _⟩ := hl.get (List.getElem?_eq_getElem h.1)
      exact ⟨_, u, h.2 _ (List.getElem?_eq_getElem h.1), hon us u (by simpa using ha) hu, hr⟩
  · obtain ⟨us, rfl, hl⟩ := hx
    refine ⟨_, rfl, ?_⟩
    by_cases ha : isAggT P t = true
    · rw [if_pos ha] at h
      simp only [must_iff, decide_eq_true_eq] at h
      exact ⟨_, _, h.2, hag us ha, RS_mkAgg ((hl.drop off).take _)⟩
    · rw [if_neg ha] at h
      obtain ⟨u, hu, hr, _⟩ := hl.get (List.getElem?_eq_getElem h.1)
      exact ⟨_, u, h.2 _ (List.getElem?_eq_getElem h.1), hon us u (by simpa using ha) hu, hr⟩
  · exact h.elim

theorem field_run {t : TypeId} {x : SV} {vx : Value} {f : Nat} {R : SV → Prop} (hx : RS χ w G x vx) (h : vcField P t x f R) :
    ∃ s v, R s ∧ (Instr.field t vx f).run P w = .ok v w ∧ RS χ w G s v := by
  unfold vcField at h
  split at h
  · rename_i fs hu
    split at h
    · rename_i fd hfd
      obtain ⟨cs, rfl, s, v, hR, hr, hs⟩ := part_run hx h
      exact ⟨s, v, hR, by simp [Instr.field, run_underlying hu, hfd, asAgg, hr], hs⟩
    · exact h.elim
  · exact h.elim

theorem index_run {t : TypeId} {x i : SV} {vx vi : Value} {R : SV → Prop} (hx : RS χ w G x vx) (hi : RS χ w G i vi) (h : vcIndex P t x i R) :
    ∃ s v, R s ∧ (Instr.index t vx vi).run P w = .ok v w ∧ RS χ w G s v := by
  unfold vcIndex at h
  split at h
  · rename_i k j hu
    simp only [RS_val] at hi
    subst hi
    split at h
    · rename_i s
      simp only [RS_val] at hx
      subst hx
      refine ⟨_, _, h.2, ?_, rfl⟩
      have h1 := h.1
      have hlt : j.toNat < s.size := by omega
      have e : s[j.toNat]? = some (s[j.toNat]'hlt) := by simp [hlt]
      have e2 : s.data.toList.getD j.toNat 0 = s[j.toNat]'hlt := by
        rw [List.getD_eq_getElem?_getD, List.getElem?_eq_getElem (by simpa using hlt)]
        rfl
      have e3 : byteAt s j.toNat = ((s[j.toNat]'hlt).toNat : Int) := by unfold byteAt; rw [e2]
      rw [e3]
      simp [Instr.index, asIntOf, run_underlying hu, h1.1, e]
    · exact h.elim
  · rename_i n e k j hu
    simp only [RS_val] at hi
    subst hi
    simp only [must_iff] at h
    obtain ⟨h1, h2, h3⟩ := h
    obtain ⟨cs, rfl, s, v, hR, hr, hs⟩ := part_run hx h3
    exact ⟨s, v, hR, by simp [Instr.index, asIntOf, run_underlying hu, h1, sizeOf_run h2, hr], hs⟩
  · exact h.elim

theorem RF_ones : ∀ {xs : List PV} {us : List Value}, RL χ w xs us → RF χ w 1 xs us
  | [], us, h => h
  | x :: xs, us, ⟨u, r, h1, h2, h3, h4⟩ => by
    have e : u.cells = #[u] := by cases u <;> first | rfl | simp [Value.oneCell'] at h2
    exact ⟨u, r, by rw [e]; simpa using h1, by rw [e]; rfl, by rw [e]; simpa using h2, h3, RF_ones h4⟩

theorem elems_reads {x : SV} {vx : Value} (hx : RS χ w G x vx) (hst : RSt χ w G st) {K : Nat → List PV → Prop} (h : vcElems x st K) :
    ∃ sz xs A c us, K sz xs ∧ vx = .slice A xs.length c ∧ xs.length ≤ c ∧ c ≤ maxLen ∧ RF χ w sz xs us ∧ (A = none → c = 0) ∧ (∀ k u, us[k]? = some u → ∃ ad, A = some ad ∧ w.cell? (ad.add k) = some u) := by
  have ofP : ∀ {sz nl xs vx}, RP χ w (.list sz nl xs) vx → K sz xs → ∃ sz xs A c us, K sz xs ∧ vx = .slice A xs.length c ∧ xs.length ≤ c ∧ c ≤ maxLen ∧ RF χ w sz xs us ∧ (A = none → c = 0) ∧ (∀ k u, us[k]? = some u → ∃ ad, A = some ad ∧ w.cell? (ad.add k) = some u) := by
    rintro sz nl xs vx ⟨A, c, us, h1, h2, h3, h4, h5, h6, h7⟩ hK
    exact ⟨sz, xs, A, c, us, hK, h1, h2, h3, h6, h4, fun k u hu => by obtain ⟨ad, e, _, hc⟩ := h7 k u hu; exact ⟨ad, e, hc⟩⟩
  unfold vcElems at h
  split at h
  · exact ofP hx h
  · exact ofP hx.1 h
  · rename_i o k n
    obtain ⟨g, c, hG, rfl, h1, h2⟩ := hx
    split at h
    · rename_i T m xs hob
      simp only [must_iff, decide_eq_true_eq] at h
      obtain ⟨hkn, h⟩ := h
      obtain ⟨g', us, vs, hG', hcol, hheap, hum, hl⟩ := hst o _ hob
      rw [hG] at hG'
      injection hG' with hG'
      injection hG' with hG'
      subst hG'
      have hlen := hl.length
      have e1 : ((xs.drop k).take n).length = n := by simp; omega
      refine ⟨1, _, _, c, (us.drop k).take n, h, by rw [e1], by rw [e1]; exact h1, h2, RF_ones ((hl.drop k).take n), fun h => (by cases h), fun j u hu => ⟨_, rfl, ?_⟩⟩
      rw [add_pl, World.cell?, hheap]
      rw [List.getElem?_take] at hu
      split at hu
      · rw [List.getElem?_drop] at hu
        have hj := (List.getElem?_eq_some_iff.1 hu).1
        simpa [List.getElem?_append_left hj] using hu
      · cases hu
    · exact h.elim
  · rename_i o n
    obtain ⟨_, m, hh, hG, hle, hx⟩ := hx
    split at h
    · rename_i m' e sz' nl xs' hob
      split at h
      case isFalse => exact h.elim
      rename_i hnm
      subst hnm
      obtain ⟨h', us, hG', hown, hf, hnl, hcol⟩ := hst o _ hob
      rw [hG] at hG'
      injection hG' with hG'
      injection hG' with e1 e2
      subst e1 e2
      have := hx rfl
      subst this
      obtain ⟨hl, hrest⟩ := hown
      rcases hrest with ⟨rfl, h0⟩ | ⟨g, c, cur, rfl, _, hg, hle', hm, hcs, htk⟩
      · have : us = [] := List.eq_nil_of_length_eq_zero (by rw [hl, h0, Nat.zero_mul])
        subst this
        exact ⟨_, _, none, 0, [], h, by rw [h0], by omega, Nat.zero_le _, hf, fun _ => rfl, fun k u hu => by simp at hu⟩
      · refine ⟨_, _, _, c, us, h, rfl, hle', hm, hf, fun h => by (cases h), fun k u hu => ⟨_, rfl, ?_⟩⟩
        rw [add_pl, World.cell?, hg]
        simp only [Option.isSome_none, Bool.false_eq_true, if_false, Nat.zero_add]
        rw [← htk, List.getElem?_take] at hu
        split at hu
        · simpa using hu
        · cases hu
    · rename_i m' sz' nl xs' hob
      split at h
      case isFalse => exact h.elim
      rename_i hnm
      subst hnm
      obtain ⟨h', hG', hr⟩ := hst o _ hob
      rw [hG] at hG'
      injection hG' with hG'
      injection hG' with e1 e2
      subst e1 e2
      have := hx rfl
      subst this
      exact ofP hr h
    · exact h.elim
  · exact h.elim

theorem RM.len : ∀ {es : List (PV × PV)} {l : List MapEntry}, RM χ w es l → l.length = es.length
  | [], l, h => by have h : l = [] := h; subst h; rfl
  | (k, v) :: r, l, ⟨e, t, h1, h2, h3, h4⟩ => by rw [h1]; simp [RM.len h4]

theorem len_run {t ty : TypeId} {x : SV} {vx : Value} {R : SV → Prop} (hx : RS χ w G x vx) (hst : RSt χ w G st) (h : vcLen P t x st R) :
    ∃ s v, R s ∧ (Builtin.len_ #[t] ty #[vx]).run P w = .ok v w ∧ RS χ w G s v := by
  unfold vcLen at h
  split at h
  · rename_i e hu
    split at h
    · obtain ⟨g, c, hG, rfl, h1, h2⟩ := hx
      exact scal h (by simp [Builtin.len_, run_underlying hu, goInt])
    · obtain ⟨sz, xs, A, c, us, hR, rfl, h1, h2, _⟩ := elems_reads hx hst h
      refine scal (hR (by simp only [maxLen] at h2; omega)) ?_
      simp [Builtin.len_, run_underlying hu, goInt]
  · rename_i hu
    split at h
    · rename_i s
      simp only [RS_val] at hx
      subst hx
      exact scal h (by simp [Builtin.len_, run_underlying hu, goInt])
    · exact h.elim
  · rename_i k e hu
    split at h
    · obtain ⟨g, hG, rfl⟩ := hx
      split at h
      · rename_i es hob
        obtain ⟨g', es', clock, hG', hcol, hheap, hm, _⟩ := hst _ _ hob
        rw [hG] at hG'
        injection hG' with hG'
        injection hG' with hG'
        subst hG'
        have hgo : (getObj g).run P w = .ok (.map (List.toArray es') clock) w := by simp [getObj, Sem.run, hheap]
        refine scal h ?_
        simp [Builtin.len_, run_underlying hu, goInt, hgo, hm.len]
      · exact h.elim
    · simp only [RS_val] at hx
      subst hx
      exact scal h (by simp [Builtin.len_, run_underlying hu, goInt])
    · exact h.elim
  · rename_i n e hu
    exact scal h (by simp [Builtin.len_, run_underlying hu, goInt])
  · exact h.elim

theorem indexAddr_run {t : TypeId} {x i : SV} {vx vi : Value} {R : SV → Prop} (hx : RS χ w G x vx) (hi : RS χ w G i vi) (hst : RSt χ w G st) (h : vcIndexAddr P t x i st R) :
    ∃ s v, R s ∧ (Instr.indexAt t vx vi).run P w = .ok v w ∧ RS χ w G s v := by
  unfold vcIndexAddr at h
  split at h
  · rename_i e k j hu
    simp only [RS_val] at hi
    subst hi
    have hel : P.elem t = e := by simp [Program.elem, hu]
    have key : ∀ (ad : Addr) (n c : Nat), (P.info? e).isSome = true → (0 ≤ j ∧ j < (n : Int)) → (Instr.indexAt t (.slice (some ad) n c) (.int k j)).run P w = .ok (.pointer (some (ad.add (j.toNat * szOf P e)))) w := fun ad n c h2 hj => by
      rw [run_indexAt_slice (h := by rw [hel]; exact hu), if_pos hj, hel, sizeOf_run h2]
      rfl
    have ofL : ∀ {sz nl xs vx}, RP χ w (.list sz nl xs) vx → sz = szOf P e → (P.info? e).isSome = true → (0 ≤ j ∧ j < (xs.length : Int)) → (∀ p, xs[j.toNat]? = some p → R (.ipt p.cells)) →
        ∃ s v, R s ∧ (Instr.indexAt t vx (.int k j)).run P w = .ok v w ∧ RS χ w G s v := by
      rintro sz nl xs vx ⟨A, c, us, rfl, g2, g3, g4, g5, g6, g7⟩ hs h2 hj hR
      have hlt : j.toNat < xs.length := by omega
      have hp := List.getElem?_eq_getElem hlt
      obtain ⟨u, hu1, hu2, hu3, hu4⟩ := g6.get hp
      cases A with
      | none => have := g4 rfl; omega
      | some ad =>
        refine ⟨_, _, hR _ hp, key ad _ c h2 hj, ad.add (j.toNat * szOf P e), u.cells.toList, rfl, RL_cells (RP_one hu1 hu3) hu1, ?_⟩
        intro m v hv
        have hk : m < sz := by have := (List.getElem?_eq_some_iff.1 hv).1; simp at this; omega
        obtain ⟨ad', e', hc1, hc2⟩ := g7 (j.toNat * sz + m) v (by
          have : (us.drop (j.toNat * sz))[m]? = some v := by rw [hu4, List.getElem?_append_left (by simpa [hu2] using hk)]; exact hv
          rwa [List.getElem?_drop] at this)
        injection e' with e'
        subst e'
        exact ⟨_, rfl, by rw [add_blk]; exact hc1, by rw [add_add, ← hs]; exact hc2⟩
    split at h
    · rename_i sz nl xs
      simp only [must_iff, Bool.and_eq_true, beq_iff_eq] at h
      exact ofL hx h.1.1 h.1.2 h.2.1 h.2.2
    · rename_i o n
      obtain ⟨_, m, hh, hG, hle, hx⟩ := hx
      split at h
      · rename_i m' e' sz nl xs hob
        simp only [must_iff, Bool.and_eq_true, beq_iff_eq] at h
        obtain ⟨⟨⟨hs, h2⟩, rfl⟩, hj, hR⟩ := h
        have hlt : j.toNat < xs.length := by omega
        obtain ⟨g, l, c, u, hG', hcol, _, _, _, _, hl, _⟩ := vec_elem (hst o _ hob) (List.getElem?_eq_getElem hlt)
        rw [hG] at hG'
        injection hG' with hG'
        injection hG' with e1 e2
        subst e1 e2
        have := hx rfl
        subst this
        subst hl
        refine ⟨_, _, hR, key _ _ c h2 hj, _, rfl, _, _, hG, Nat.le_refl _, fun _ => ⟨g, _, c, rfl, ?_⟩⟩
        rw [add_pl, hs]
        simp
      · rename_i m' sz nl xs hob
        simp only [must_iff, Bool.and_eq_true, beq_iff_eq] at h
        obtain ⟨⟨⟨hs, h2⟩, rfl⟩, hj, hR⟩ := h
        obtain ⟨h', hG', hr⟩ := hst o _ hob
        rw [hG] at hG'
        injection hG' with hG'
        injection hG' with e1 e2
        subst e1 e2
        have := hx rfl
        subst this
        exact ofL hr hs h2 hj hR
      · exact h.elim
    · rename_i o k n
      obtain ⟨g, c, hG, rfl, hc1, hc2⟩ := hx
      simp only [must_iff, Bool.and_eq_true, beq_iff_eq] at h
      obtain ⟨⟨hs, h2⟩, hj, hR⟩ := h
      refine ⟨_, _, hR, key _ _ c h2 hj, g, hG, ?_⟩
      rw [add_pl, hs, Nat.mul_one]
    · exact h.elim
  · rename_i n e k j hu
    simp only [RS_val] at hi
    subst hi
    simp only [must_iff] at h
    obtain ⟨h2, hj, h⟩ := h
    have key : ∀ (ad : Addr), (Instr.indexAt t (.pointer (some ad)) (.int k j)).run P w = .ok (.pointer (some (ad.add (j.toNat * szOf P e)))) w := fun ad => by
      have hl : P.arrayLen t = n := by simp [Program.arrayLen, hu]
      have he : P.elem t = e := by simp [Program.elem, hu]
      rw [run_indexAt_array (h := by rw [hl, he]; exact hu), hl, if_pos hj, he, sizeOf_run h2]
      rfl
    split at h
    · obtain ⟨g, hG, rfl⟩ := hx
      exact ⟨_, _, h, key _, g, hG, by rw [add_pl]⟩
    · obtain ⟨ad, us, rfl, hl, hc⟩ := hx
      refine ⟨_, _, h, key _, _, _, rfl, hl.drop _, hc.tail _⟩
    · rename_i o m sz i off
      obtain ⟨ad, rfl, m', hh, hG, hle, hx⟩ := hx
      refine ⟨_, _, h, key _, _, rfl, m', hh, hG, hle, fun hn => ?_⟩
      obtain ⟨g, l, c, e1, rfl⟩ := hx hn
      exact ⟨g, l, c, e1, by rw [add_pl, Nat.add_assoc]⟩
    · exact h.elim
  · exact h.elim

theorem RF_u8 {sz : Nat} : ∀ {l : List Int} {us : List Value}, RF χ w sz (l.map fun n => .val (.int .u8 n)) us → us = l.map (Value.int .u8)
  | [], us, h => by simpa [RF] using h
  | n :: l, us, ⟨u, r, h1, h2, h3, h4, h5⟩ => by
    have h4 : u = .int .u8 n := h4
    subst h4 h1
    rw [RF_u8 h5]
    rfl

/-- The conversions that make no memory. -/
theorem conv_run {s d : TypeId} {x : SV} {vx : Value} {R : SV → Prop} (hx : RS χ w G x vx) (hst : RSt χ w G st) (hnb : ∀ a e, ¬ (x = vS a ∧ P.underlying d = some (.slice e))) (h : vcConv P s d x st R) :
    ∃ s' v, R s' ∧ (convert s d vx).run P w = .ok v w ∧ RS χ w G s' v := by
  unfold vcConv at h
  split at h
  · simp only [RS_val] at hx
    subst hx
    split at h
    · rename_i h1 h2
      exact scal h (by simp [convert, run_underlying h1, run_underlying h2, Conv.intToInt])
    · exact h.elim
  · simp only [RS_val] at hx
    subst hx
    split at h
    · rename_i h1 h2
      exact scal h (by simp [convert, run_underlying h1, run_underlying h2])
    · rename_i h1 h2
      exact absurd ⟨rfl, h2⟩ (hnb _ _)
    · exact h.elim
  · split at h
    · rename_i e h1 h2
      simp only [must_iff] at h
      obtain ⟨he, h⟩ := h
      have he : P.underlying e = some (.int .u8) := by unfold isU8 at he; split at he <;> simp_all
      obtain ⟨sz, xs, A, c, us, ⟨⟨l, hl⟩, hR⟩, rfl, g1, g2, g3, g4, g5⟩ := elems_reads hx hst h
      subst hl
      have hu := RF_u8 g3
      subst hu
      refine scal (hR l rfl) ?_
      cases A with
      | none => 
        have := g4 rfl
        subst this
        have : l = [] := by simpa using g1
        subst this
        exact run_convert_bytes_nil w s e h1 he _ _ d h2
      | some ad =>
        rw [run_convert_bytes_string w s d e _ _ c h1 he h2, run_bytesToString w ad _ c l, foldl_push_bytes]
        · simp [strOfNums, ByteArray.empty, ByteArray.emptyWithCapacity]; rfl
        · have := run_loadCells_list (P := P) w ad (l.map (Value.int .u8)) (fun j v hj => by
            obtain ⟨ad', e', hc⟩ := g5 j v hj
            injection e' with e'
            subst e'
            exact hc)
          simpa using this
    · exact h.elim

end
end Go.Sy
/- The walk's operations are what the model does: objects made and turned. -/
set_option linter.all false
set_option maxHeartbeats 4000000
namespace Go.Sy
open Go.RowKit

def Fits (E : Ent) (χ : Nat → Color) (G : Gh) (σ : St) (a : Act) (w : World) : Prop :=
  RTL χ w G σ.env a.tmps.toList ∧ RSt χ w G σ.st ∧ Fr E.χ E.w χ w ∧ RD E χ w G a.defers ∧ E.k.n ≤ σ.st.length ∧ GLe E.k.n E.G G ∧ (∀ o, σ.st.length ≤ o → G o = none)

theorem Fits.gl {E : Ent} {χ : Nat → Color} {G : Gh} {σ : St} {a : Act} {w : World} (h : Fits E χ G σ a w) : Gl χ w := E.gl.mono h.2.2.1.keep
theorem Fits.rel {E : Ent} {χ : Nat → Color} {G : Gh} {σ : St} {a : Act} {w : World} (h : Fits E χ G σ a w) : Rel E σ a w := ⟨χ, G, h⟩
theorem Fits.two {E : Ent} {χ : Nat → Color} {G : Gh} {σ : St} {a : Act} {w : World} {s : SV} {v : Value} (h : Fits E χ G σ a w) (hs : RS χ w G s v) : Rel2 E σ a w s v := ⟨χ, G, h, hs⟩

theorem RO.mono {χ χ' : Nat → Color} {w w' : World} {G G' : Gh} {o : Nat} {ob : Ob} (hk : Keep χ w χ' w') (hg : GGo G G') (ho : G' o = G o)
    (hb : ∀ b, b < w.heap.size → χ b = .own o → χ' b = .own o ∧ w'.heap[b]? = w.heap[b]?) (h : RO χ w G o ob) : RO χ' w' G' o ob := by
  cases ob with
  | cells t cs =>
    obtain ⟨g, us, h1, h2, h3, h4⟩ := h
    have hlt : g < w.heap.size := (Array.getElem?_eq_some_iff.1 h3).1
    exact ⟨g, us, by rw [ho]; exact h1, (hb g hlt h2).1, by rw [(hb g hlt h2).2]; exact h3, RSL.mono hk hg _ _ h4⟩
  | vec n e sz nl xs =>
    obtain ⟨hd, us, h1, h2, h3, h4, h5⟩ := h
    have hlt : ∀ g, hd.ownBlock = some g → g < w.heap.size := fun g hg' => by
      rcases h2.2 with ⟨rfl, _⟩ | ⟨g', c, cur, rfl, _, hh, _⟩
      · simp [Value.ownBlock] at hg'
      · simp [Value.ownBlock] at hg'
        subst hg'
        exact (Array.getElem?_eq_some_iff.1 hh).1
    refine ⟨hd, us, by rw [ho]; exact h1, ⟨h2.1, ?_⟩, RF.mono hk _ _ _ h3, h4, fun g hg' => (hb g (hlt g hg') (h5 g hg')).1⟩
    rcases h2.2 with h | ⟨g', c, cur, rfl, h6, hh, h7⟩
    · exact .inl h
    · exact .inr ⟨g', c, cur, rfl, h6, by rw [(hb g' (hlt g' rfl) (h5 g' rfl)).2]; exact hh, h7⟩
  | fro n sz nl xs =>
    obtain ⟨hd, h1, h2⟩ := h
    exact ⟨hd, by rw [ho]; exact h1, RP.mono hk _ _ h2⟩
  | gone => trivial
  | row t n xs =>
    obtain ⟨g, us, vs, h1, h2, h3, h4, h5⟩ := h
    have hlt : g < w.heap.size := (Array.getElem?_eq_some_iff.1 h3).1
    exact ⟨g, us, vs, by rw [ho]; exact h1, (hb g hlt h2).1, by rw [(hb g hlt h2).2]; exact h3, h4, RL.mono hk _ _ h5⟩
  | loop env ps asg body s pend =>
    obtain ⟨g, us, fn, D, h1, h2, h3, h4⟩ := h
    have hlt : g < w.heap.size := (Array.getElem?_eq_some_iff.1 h3).1
    exact ⟨g, us, fn, D, by rw [ho]; exact h1, (hb g hlt h2).1, by rw [(hb g hlt h2).2]; exact h3, RTL.mono hk hg _ _ h4⟩
  | map es =>
    obtain ⟨g, es', c, h1, h2, h3, h4, h5, h6⟩ := h
    have hlt : g < w.heap.size := (Array.getElem?_eq_some_iff.1 h3).1
    exact ⟨g, es', c, by rw [ho]; exact h1, (hb g hlt h2).1, by rw [(hb g hlt h2).2]; exact h3, RM.mono hk _ _ h4, h5, h6⟩
  | iter mo es left cur =>
    obtain ⟨r, g, es', c, since, seen, c0, h1, h2, h3, h4, h5, h6, h7, h8, h9, h10, h11, h12, h13, h14⟩ := h
    have hlt : g < w.heap.size := (Array.getElem?_eq_some_iff.1 h5).1
    have hlr : r < w.heap.size := (Array.getElem?_eq_some_iff.1 h9).1
    refine ⟨r, g, es', c, since, seen, c0, by rw [ho]; exact h1, (hg mo).1 g h2, (hb r hlr h3).1, (hb g hlt h4).1, by rw [(hb g hlt h4).2]; exact h5, RM.mono hk _ _ h6, h7, h8, by rw [(hb r hlr h3).2]; exact h9, h10, h11, h12, RM.mono hk _ _ h13, fun c hc => ?_⟩
    obtain ⟨k0, e, seen', k1, k2, k3, k4⟩ := h14 c hc
    exact ⟨k0, e, seen', k1, k2, RP.mono hk _ _ k3, RP.mono hk _ _ k4⟩

/-- One object turns, or comes; all else stays. -/
theorem Fits.upd {E : Ent} {χ χ' : Nat → Color} {G G' : Gh} {env : List SV} {st st' : List Ob} {a : Act} {w w' : World} (o : Nat) (ob : Ob) (h : Fits E χ G ⟨env, st⟩ a w)
    (hos : w'.os = w.os) (htp : w'.tape = w.tape) (hou : w'.output = w.output) (hsz : w.heap.size ≤ w'.heap.size)
    (hb : ∀ b, b < w.heap.size → χ b ≠ .own o → χ' b = χ b ∧ w'.heap[b]? = w.heap[b]?)
    (hG : ∀ o', o' ≠ o → G' o' = G o')
    (hGo : (∀ g, G o = some (.fix g) → G' o = some (.fix g)) ∧ (∀ n h, G o = some (.ver n h) → ∃ m h', G' o = some (.ver m h') ∧ n ≤ m ∧ (n = m → h' = h)))
    (hr : RO χ' w' G' o ob)
    (hst : ∀ (o' : Nat) ob', st'[o']? = some ob' → (o' = o ∧ ob' = ob) ∨ (o' ≠ o ∧ st[o']? = some ob'))
    (hlen : st.length ≤ st'.length) (hnew : ∀ o', st'.length ≤ o' → st.length ≤ o' ∧ o' ≠ o) : Fits E χ' G' ⟨env, st'⟩ a w' := by
  obtain ⟨h1, h2, h3, h4, h5, h6, h7⟩ := h
  have hk : Keep χ w χ' w' := fun b hlt hi => by
    obtain ⟨e1, e2⟩ := hb b hlt (by rw [hi]; simp)
    exact ⟨by rw [e1]; exact hi, e2⟩
  have hgo : GGo G G' := fun o' => by
    by_cases e : o' = o
    · subst e; exact hGo
    · exact ⟨fun g hg => by rw [hG o' e]; exact hg, fun n hd hh => ⟨n, hd, by rw [hG o' e]; exact hh, Nat.le_refl _, fun _ => rfl⟩⟩
  refine ⟨RTL.mono hk hgo _ _ h1, fun o' ob' ho' => ?_, ⟨hos.trans h3.os, htp.trans h3.tape, hou.trans h3.output, Nat.le_trans h3.size hsz, fun b hlt hi => ?_, fun b hlt hi => ?_⟩, h4.mono hk hgo (fun b hlt hm => by
      obtain ⟨e1, e2⟩ := hb b hlt (by rw [hm]; simp)
      exact ⟨by rw [e1]; exact hm, e2⟩), Nat.le_trans h5 hlen, fun o' ho' => ?_, fun o' ho' => ?_⟩
  · rcases hst o' ob' ho' with ⟨rfl, rfl⟩ | ⟨hne, hold⟩
    · exact hr
    · refine RO.mono hk hgo (hG o' hne) (fun b hlt hc => ?_) (h2 o' ob' hold)
      obtain ⟨e1, e2⟩ := hb b hlt (by rw [hc]; intro h; injection h with h; exact hne h)
      exact ⟨by rw [e1]; exact hc, e2⟩
  · obtain ⟨e1, e2⟩ := h3.imm b hlt hi
    obtain ⟨e3, e4⟩ := hb b (Nat.lt_of_lt_of_le hlt h3.size) (by rw [e1]; simp)
    exact ⟨by rw [e3]; exact e1, by rw [e4]; exact e2⟩
  · obtain ⟨e1, e2⟩ := h3.other b hlt hi
    obtain ⟨e3, e4⟩ := hb b (Nat.lt_of_lt_of_le hlt h3.size) (by rw [e1]; simp)
    exact ⟨by rw [e3]; exact e1, by rw [e4]; exact e2⟩
  · obtain ⟨g1, g2⟩ := h6 o' ho'
    refine ⟨fun g hg => (hgo o').1 g (g1 g hg), fun n hd hh => ?_⟩
    obtain ⟨m, hd', e1, e2, e3⟩ := g2 n hd hh
    obtain ⟨m', hd'', e4, e5, e6⟩ := (hgo o').2 m hd' e1
    exact ⟨m', hd'', e4, Nat.le_trans e2 e5, fun e => by rw [e6 (by omega), e3 (by omega)]⟩
  · obtain ⟨e1, e2⟩ := hnew o' ho'
    rw [hG o' e2]
    exact h7 o' e1

/-- The world goes on, nothing that was there turns. -/
theorem Fits.ext {E : Ent} {χ χ' : Nat → Color} {G : Gh} {σ : St} {a : Act} {w w' : World} (h : Fits E χ G σ a w)
    (hos : w'.os = w.os) (htp : w'.tape = w.tape) (hou : w'.output = w.output) (hsz : w.heap.size ≤ w'.heap.size)
    (hb : ∀ b, b < w.heap.size → χ' b = χ b ∧ w'.heap[b]? = w.heap[b]?) : Fits E χ' G σ a w' := by
  obtain ⟨h1, h2, h3, h4, h5, h6, h7⟩ := h
  have hk : Keep χ w χ' w' := fun b hlt hi => ⟨by rw [(hb b hlt).1]; exact hi, (hb b hlt).2⟩
  refine ⟨RTL.mono hk (GGo.refl _) _ _ h1, fun o ob ho => RO.mono hk (GGo.refl _) rfl (fun b hlt hc => ⟨by rw [(hb b hlt).1]; exact hc, (hb b hlt).2⟩) (h2 o ob ho),
    ⟨hos.trans h3.os, htp.trans h3.tape, hou.trans h3.output, Nat.le_trans h3.size hsz, fun b hlt hi => ?_, fun b hlt hi => ?_⟩, h4.mono hk (GGo.refl _) (fun b hlt hm => ⟨by rw [(hb b hlt).1]; exact hm, (hb b hlt).2⟩), h5, h6, h7⟩
  · obtain ⟨e1, e2⟩ := h3.imm b hlt hi
    obtain ⟨e3, e4⟩ := hb b (Nat.lt_of_lt_of_le hlt h3.size)
    exact ⟨by rw [e3]; exact e1, by rw [e4]; exact e2⟩
  · obtain ⟨e1, e2⟩ := h3.other b hlt hi
    obtain ⟨e3, e4⟩ := hb b (Nat.lt_of_lt_of_le hlt h3.size)
    exact ⟨by rw [e3]; exact e1, by rw [e4]; exact e2⟩

theorem getElem?_set_cases {α : Type} (l : List α) (o : Nat) (x : α) (o' : Nat) (y : α) (h : (l.set o x)[o']? = some y) : (o' = o ∧ y = x) ∨ (o' ≠ o ∧ l[o']? = some y) := by
  rw [List.getElem?_set] at h
  split at h
  · rename_i e
    subst e
    split at h
    · injection h with h; exact .inl ⟨rfl, h.symm⟩
    · cases h
  · rename_i e
    exact .inr ⟨fun h => e h.symm, h⟩

theorem getElem?_snoc_cases {α : Type} (l : List α) (x : α) (o' : Nat) (y : α) (h : (l ++ [x])[o']? = some y) : (o' = l.length ∧ y = x) ∨ (o' ≠ l.length ∧ l[o']? = some y) := by
  by_cases e : o' = l.length
  · subst e
    simp at h
    exact .inl ⟨rfl, h.symm⟩
  · right
    refine ⟨e, ?_⟩
    rcases Nat.lt_or_ge o' l.length with hlt | hge
    · rwa [List.getElem?_append_left hlt] at h
    · rw [List.getElem?_eq_none (by simp; omega)] at h
      cases h

/-- An object that is there. -/
theorem Fits.set {E : Ent} {χ χ' : Nat → Color} {G G' : Gh} {env : List SV} {st : List Ob} {a : Act} {w w' : World} {o : Nat} {ob : Ob} (h : Fits E χ G ⟨env, st⟩ a w) (hlt : o < st.length)
    (hos : w'.os = w.os) (htp : w'.tape = w.tape) (hou : w'.output = w.output) (hsz : w.heap.size ≤ w'.heap.size)
    (hb : ∀ b, b < w.heap.size → χ b ≠ .own o → χ' b = χ b ∧ w'.heap[b]? = w.heap[b]?)
    (hG : ∀ o', o' ≠ o → G' o' = G o')
    (hGo : (∀ g, G o = some (.fix g) → G' o = some (.fix g)) ∧ (∀ n h, G o = some (.ver n h) → ∃ m h', G' o = some (.ver m h') ∧ n ≤ m ∧ (n = m → h' = h)))
    (hr : RO χ' w' G' o ob) : Fits E χ' G' ⟨env, st.set o ob⟩ a w' :=
  h.upd o ob hos htp hou hsz hb hG hGo hr (getElem?_set_cases st o ob) (by simp) (fun o' ho' => by simp at ho'; omega)

/-- A new object. -/
theorem Fits.new {E : Ent} {χ χ' : Nat → Color} {G G' : Gh} {env : List SV} {st : List Ob} {a : Act} {w w' : World} {ob : Ob} (h : Fits E χ G ⟨env, st⟩ a w)
    (hos : w'.os = w.os) (htp : w'.tape = w.tape) (hou : w'.output = w.output) (hsz : w.heap.size ≤ w'.heap.size)
    (hb : ∀ b, b < w.heap.size → χ' b = χ b ∧ w'.heap[b]? = w.heap[b]?)
    (hG : ∀ o', o' ≠ st.length → G' o' = G o')
    (hr : RO χ' w' G' st.length ob) : Fits E χ' G' ⟨env, st ++ [ob]⟩ a w' := by
  have h7 := h.2.2.2.2.2.2 st.length (Nat.le_refl _)
  exact h.upd st.length ob hos htp hou hsz (fun b hlt _ => hb b hlt) hG (by rw [h7]; exact ⟨fun g hg => (by cases hg), fun n hd hh => (by cases hh)⟩) hr (getElem?_snoc_cases st ob) (by simp) (fun o' ho' => by simp at ho'; omega)

/-- A mark at one place of a function. -/
def upF {α : Type} (f : Nat → α) (k : Nat) (x : α) : Nat → α := fun i => if i = k then x else f i
theorem upF_same {α : Type} (f : Nat → α) (k : Nat) (x : α) : upF f k x k = x := by simp [upF]
theorem upF_ne {α : Type} (f : Nat → α) {k i : Nat} (x : α) (h : i ≠ k) : upF f k x i = f i := by simp [upF, h]

section
variable {P : Program} {E : Ent} {χ : Nat → Color} {G : Gh} {env : List SV} {st : List Ob} {a : Act} {w : World}

theorem RSL.mono' {χ χ' : Nat → Color} {w w' : World} {G G' : Gh} (hk : Keep χ w χ' w') (hg : GGo G G') {cs : List SV} {us : List Value} (h : RSL χ w G cs us) : RSL χ' w' G' cs us := RSL.mono hk hg cs us h

/-- A new block of cells. -/
theorem Fits.box (h : Fits E χ G ⟨env, st⟩ a w) (t : TypeId) {cs : List SV} {us : List Value} (hr : RSL χ w G cs us) :
    Fits E (upF χ w.heap.size (.own st.length)) (upF G st.length (some (.fix w.heap.size))) ⟨env, st ++ [.cells t cs]⟩ a (w.alloc (.cells us.toArray t)) := by
  have hk : Keep χ w (upF χ w.heap.size (.own st.length)) (w.alloc (.cells us.toArray t)) := fun b hlt hi =>
    ⟨by rw [upF_ne _ _ (by omega)]; exact hi, Below.heap_alloc w _ b hlt⟩
  have h7 := h.2.2.2.2.2.2 st.length (Nat.le_refl _)
  have hg : GGo G (upF G st.length (some (.fix w.heap.size))) := fun o' => by
    by_cases e : o' = st.length
    · subst e; rw [h7]; exact ⟨fun g hg => (by cases hg), fun n hd hh => (by cases hh)⟩
    · rw [upF_ne _ _ e]; exact ⟨fun g hg => hg, fun n hd hh => ⟨n, hd, hh, Nat.le_refl _, fun _ => rfl⟩⟩
  exact h.new rfl rfl rfl (by simp) (fun b hlt => ⟨upF_ne _ _ (by omega), Below.heap_alloc w _ b hlt⟩) (fun o' ho' => upF_ne _ _ ho')
    ⟨w.heap.size, us, upF_same _ _ _, upF_same _ _ _, heap_alloc_new w _, RSL.mono hk hg _ _ hr⟩

/-- A new row of one's own. -/
theorem Fits.newVec (h : Fits E χ G ⟨env, st⟩ a w) {w' : World} {hd : Value} {e sz : Nat} {nl : Bool} {xs : List PV} {us : List Value}
    (hos : w'.os = w.os) (htp : w'.tape = w.tape) (hou : w'.output = w.output) (hsz : w.heap.size ≤ w'.heap.size) (hb : ∀ b, b < w.heap.size → w'.heap[b]? = w.heap[b]?)
    (hown : w'.ownsRow 0 e sz hd xs.length us) (hf : RF χ w sz xs us) (hnl : nl = true ↔ hd = .slice none 0 0) (hnew : ∀ g, hd.ownBlock = some g → w.heap.size ≤ g) :
    ∃ χ', Fits E χ' (upF G st.length (some (.ver 0 hd))) ⟨env, st ++ [.vec 0 e sz nl xs]⟩ a w' ∧ RS χ' w' (upF G st.length (some (.ver 0 hd))) (.vref st.length 0) hd := by
  have hk : Keep χ w (fun b => if hd.ownBlock = some b then .own st.length else χ b) w' := fun b hlt hi =>
    ⟨by simp only; rw [if_neg (fun e => by have := hnew b e; omega)]; exact hi, hb b hlt⟩
  refine ⟨fun b => if hd.ownBlock = some b then .own st.length else χ b, h.new hos htp hou hsz (fun b hlt => ⟨by rw [if_neg (fun e => by have := hnew b e; omega)], hb b hlt⟩) (fun o' ho' => upF_ne _ _ ho') ?_, ?_⟩
  · exact ⟨hd, us, upF_same _ _ _, hown, RF.mono hk _ _ _ hf, hnl, fun g hg => by simp [hg]⟩
  · refine ⟨?_, 0, hd, upF_same _ _ _, Nat.le_refl _, fun _ => rfl⟩
    rcases hown.2 with ⟨rfl, _⟩ | ⟨g, c, cur, rfl, _⟩ <;> rfl

/-- Nobody writes a vec any more. -/
theorem Fits.freeze (h : Fits E χ G ⟨env, st⟩ a w) {o n e sz : Nat} {nl : Bool} {xs : List PV} (ho : st[o]? = some (.vec n e sz nl xs)) :
    ∃ χ' hd, Fits E χ' G ⟨env, st.set o (.fro n sz nl xs)⟩ a w ∧ (∀ b, χ b = .imm → χ' b = .imm) ∧ G o = some (.ver n hd) ∧ RP χ' w (.list sz nl xs) hd := by
  have hlt : o < st.length := (List.getElem?_eq_some_iff.1 ho).1
  obtain ⟨hd, us, hG, hown, hf, hnl, hcol⟩ := h.2.1 o _ ho
  have hk : Keep χ w (fun b => if hd.ownBlock = some b then .imm else χ b) w := fun b hlt hi => ⟨by simp only; split; rfl; exact hi, rfl⟩
  have hrp : RP (fun b => if hd.ownBlock = some b then .imm else χ b) w (.list sz nl xs) hd := by
    have hf' := RF.mono hk _ _ _ hf
    rcases hown.2 with ⟨rfl, h0⟩ | ⟨g, c, cur, rfl, _, hh, hle, hm, hcs, htk⟩
    · have hus : us = [] := List.eq_nil_of_length_eq_zero (by rw [hown.1, h0, Nat.zero_mul])
      subst hus
      exact ⟨none, 0, [], by rw [h0], by omega, Nat.zero_le _, fun _ => rfl, by simpa using hnl, hf', fun k u hu => by simp at hu⟩
    · refine ⟨_, c, us, rfl, hle, hm, fun h => (by cases h), by simpa using hnl, hf', fun k u hu => ⟨_, rfl, by simp [Value.ownBlock], ?_⟩⟩
      rw [add_pl, World.cell?, hh]
      simp only [Option.isSome_none, Bool.false_eq_true, if_false, Nat.zero_add]
      rw [← htk, List.getElem?_take] at hu
      split at hu
      · simpa using hu
      · cases hu
  refine ⟨_, hd, h.set hlt rfl rfl rfl (Nat.le_refl _) (fun b hb hne => ⟨?_, rfl⟩) (fun _ _ => rfl) ⟨fun g hg => hg, fun n hd hh => ⟨n, hd, hh, Nat.le_refl _, fun _ => rfl⟩⟩ ⟨hd, hG, hrp⟩, fun b hi => by (try simp only); split; rfl; exact hi, hG, hrp⟩
  rw [if_neg (fun e => hne (hcol b e))]

end
end Go.Sy
/- The walk's operations are what the model does: values that go where nobody writes, new rows. -/
set_option linter.all false
set_option maxHeartbeats 4000000
namespace Go.Sy
open Go.RowKit

theorem look_set {st : List Ob} {o n e sz : Nat} {nl : Bool} {xs : List PV} (h : st[o]? = some (.vec n e sz nl xs)) (o' : Nat) : look (st.set o (.fro n sz nl xs)) o' = look st o' := by
  have hlt := (List.getElem?_eq_some_iff.1 h).1
  by_cases he : o = o'
  · subst he
    have h1 : look st o = some (n, sz, nl, xs) := by unfold look; rw [h]
    have h2 : look (st.set o (.fro n sz nl xs)) o = some (n, sz, nl, xs) := by unfold look; rw [List.getElem?_set_self hlt]
    rw [h1, h2]
  · unfold look
    rw [List.getElem?_set_ne he]

theorem RL.one {χ : Nat → Color} {w : World} : ∀ {cs : List PV} {us : List Value}, RL χ w cs us → ∀ y ∈ us, y.oneCell' = true
  | [], us, h, y, hy => by simp [RL] at h; subst h; simp at hy
  | c :: cs, us, ⟨u, r, h1, h2, h3, h4⟩, y, hy => by
    subst h1
    rcases List.mem_cons.1 hy with h | h
    · subst h; exact h2
    · exact RL.one h4 y h
theorem RSL.one {χ : Nat → Color} {w : World} {G : Gh} : ∀ {cs : List SV} {us : List Value}, RSL χ w G cs us → ∀ y ∈ us, y.oneCell' = true
  | [], us, h, y, hy => by simp [RSL] at h; subst h; simp at hy
  | c :: cs, us, ⟨u, r, h1, h2, h3, h4⟩, y, hy => by
    subst h1
    rcases List.mem_cons.1 hy with h | h
    · subst h; exact h2
    · exact RSL.one h4 y h

mutual
theorem look_frz : ∀ (s : SV) (st : List Ob) (o' : Nat), look (s.frz st) o' = look st o'
  | .vref o n, st, o' => by
    unfold SV.frz
    split
    · rename_i m e sz nl xs h
      split
      · exact look_set h o'
      · rfl
    · rfl
  | .agg cs, st, o' => by unfold SV.frz; exact look_frzL cs st o'
  | .pure _, st, o' => rfl
  | .ptr _ _, st, o' => rfl
  | .eptr _ _ _ _ _, st, o' => rfl
  | .ipt _, st, o' => rfl
  | .mref _, st, o' => rfl
  | .tup _, st, o' => rfl
  | .clo _ _, st, o' => rfl
  | .dead, st, o' => rfl
  | .lit _ _, st, o' => rfl
  | .sref _ _ _, st, o' => rfl
  | .yld _, st, o' => rfl
  | .bnd _ _, st, o' => rfl
theorem look_frzL : ∀ (cs : List SV) (st : List Ob) (o' : Nat), look (SV.frzL cs st) o' = look st o'
  | [], st, o' => rfl
  | c :: cs, st, o' => by unfold SV.frzL; rw [look_frzL cs, look_frz c]
end
mutual
theorem pv_look {st st' : List Ob} (h : ∀ o, look st' o = look st o) : ∀ (s : SV), s.pv st' = s.pv st
  | .vref o n => by unfold SV.pv; rw [h]
  | .agg cs => by unfold SV.pv; rw [pvL_look h cs]
  | .pure _ => rfl
  | .ptr _ _ => rfl
  | .eptr _ _ _ _ _ => rfl
  | .ipt _ => rfl
  | .mref _ => rfl
  | .tup _ => rfl
  | .clo _ _ => rfl
  | .dead => rfl
  | .lit _ _ => rfl
  | .sref _ _ _ => rfl
  | .yld _ => rfl
  | .bnd _ _ => rfl
theorem pvL_look {st st' : List Ob} (h : ∀ o, look st' o = look st o) : ∀ (cs : List SV), SV.pvL st' cs = SV.pvL st cs
  | [] => rfl
  | c :: cs => by unfold SV.pvL; rw [pv_look h c, pvL_look h cs]
end

def ImmLe (χ χ' : Nat → Color) : Prop := ∀ b, χ b = .imm → χ' b = .imm
theorem ImmLe.refl (χ : Nat → Color) : ImmLe χ χ := fun _ h => h
theorem ImmLe.trans {χ χ' χ'' : Nat → Color} (h : ImmLe χ χ') (h' : ImmLe χ' χ'') : ImmLe χ χ'' := fun b hb => h' b (h b hb)
theorem ImmLe.keep {χ χ' : Nat → Color} (h : ImmLe χ χ') (w : World) : Keep χ w χ' w := fun b _ hi => ⟨h b hi, rfl⟩

section
variable {P : Program} {E : Ent} {G : Gh} {env : List SV} {a : Act} {w : World}

mutual
theorem pv_frz : ∀ (s : SV) {χ : Nat → Color} {st : List Ob} {p : PV} {v : Value}, Fits E χ G ⟨env, st⟩ a w → RS χ w G s v → s.pv st = some p →
    ∃ χ', Fits E χ' G ⟨env, s.frz st⟩ a w ∧ ImmLe χ χ' ∧ RP χ' w p v
  | .pure q, χ, st, p, v, hf, hs, hp => by
    unfold SV.pv at hp
    injection hp with hp
    subst hp
    exact ⟨χ, hf, ImmLe.refl _, hs⟩
  | .vref o n, χ, st, p, v, hf, hs, hp => by
    unfold SV.pv look at hp
    obtain ⟨_, m, hd, hG, hle, hv⟩ := hs
    cases ho : st[o]? with
    | none => simp [ho] at hp
    | some ob =>
      cases ob with
      | cells t cs => simp [ho] at hp
      | gone => simp [ho] at hp
      | row t n xs => simp [ho] at hp
      | loop env ps asg body s pend => simp [ho] at hp
      | map es => simp [ho] at hp
      | iter mo es left cur => simp [ho] at hp
      | vec m' e sz nl xs =>
        simp only [ho, Option.ite_none_right_eq_some, Option.some.injEq] at hp
        obtain ⟨rfl, rfl⟩ := hp
        obtain ⟨χ', hd', h1, h2, h3, h4⟩ := hf.freeze ho
        rw [hG] at h3
        injection h3 with h3
        injection h3 with e1 e2
        subst e1 e2
        have := hv rfl
        subst this
        refine ⟨χ', ?_, h2, h4⟩
        unfold SV.frz
        simpa [ho] using h1
      | fro m' sz nl xs =>
        simp only [ho, Option.ite_none_right_eq_some, Option.some.injEq] at hp
        obtain ⟨rfl, rfl⟩ := hp
        obtain ⟨hd', h3, h4⟩ := hf.2.1 o _ ho
        rw [hG] at h3
        injection h3 with h3
        injection h3 with e1 e2
        subst e1 e2
        have := hv rfl
        subst this
        refine ⟨χ, ?_, ImmLe.refl _, h4⟩
        unfold SV.frz
        simpa [ho] using hf
  | .agg cs, χ, st, p, v, hf, hs, hp => by
    unfold SV.pv at hp
    split at hp
    · rename_i ps hps
      injection hp with hp
      subst hp
      obtain ⟨us, rfl, hl⟩ := hs
      obtain ⟨χ', h1, h2, h3⟩ := pvL_frz cs hf hl hps
      exact ⟨χ', by unfold SV.frz; exact h1, h2, us, rfl, h3⟩
    · cases hp
  | .ptr _ _, χ, st, p, v, hf, hs, hp => by simp [SV.pv] at hp
  | .eptr _ _ _ _ _, χ, st, p, v, hf, hs, hp => by simp [SV.pv] at hp
  | .ipt _, χ, st, p, v, hf, hs, hp => by simp [SV.pv] at hp
  | .mref _, χ, st, p, v, hf, hs, hp => by simp [SV.pv] at hp
  | .tup _, χ, st, p, v, hf, hs, hp => by simp [SV.pv] at hp
  | .clo _ _, χ, st, p, v, hf, hs, hp => by simp [SV.pv] at hp
  | .dead, χ, st, p, v, hf, hs, hp => by simp [SV.pv] at hp
  | .lit _ _, χ, st, p, v, hf, hs, hp => by simp [SV.pv] at hp
  | .sref _ _ _, χ, st, p, v, hf, hs, hp => by simp [SV.pv] at hp
  | .yld _, χ, st, p, v, hf, hs, hp => by simp [SV.pv] at hp
  | .bnd _ _, χ, st, p, v, hf, hs, hp => by simp [SV.pv] at hp
theorem pvL_frz : ∀ (cs : List SV) {χ : Nat → Color} {st : List Ob} {ps : List PV} {us : List Value}, Fits E χ G ⟨env, st⟩ a w → RSL χ w G cs us → SV.pvL st cs = some ps →
    ∃ χ', Fits E χ' G ⟨env, SV.frzL cs st⟩ a w ∧ ImmLe χ χ' ∧ RL χ' w ps us
  | [], χ, st, ps, us, hf, hs, hp => by
    unfold SV.pvL at hp
    injection hp with hp
    subst hp
    exact ⟨χ, hf, ImmLe.refl _, hs⟩
  | c :: cs, χ, st, ps, us, hf, hs, hp => by
    obtain ⟨u, r, rfl, h1, h2, h3⟩ := hs
    unfold SV.pvL at hp
    split at hp
    · rename_i p ps' e1 e2
      injection hp with hp
      subst hp
      obtain ⟨χ1, g1, g2, g3⟩ := pv_frz c hf h2 e1
      obtain ⟨χ2, k1, k2, k3⟩ := pvL_frz cs g1 (RSL.mono (g2.keep w) (GGo.refl G) _ _ h3) (by rw [pvL_look (look_frz c st)]; exact e2)
      exact ⟨χ2, by unfold SV.frzL; exact k1, g2.trans k2, u, r, rfl, h1, RP.mono (k2.keep w) _ _ g3, k3⟩
    · cases hp
end

theorem pure_ok {qt : Bool} {χ : Nat → Color} {st : List Ob} {s : SV} {v : Value} {K : PV → List Ob → Prop} (hf : Fits E χ G ⟨env, st⟩ a w) (hs : RS χ w G s v) (h : vcPure qt s st K) :
    ∃ χ' p st', K p st' ∧ Fits E χ' G ⟨env, st'⟩ a w ∧ ImmLe χ χ' ∧ RP χ' w p v := by
  unfold vcPure at h
  split at h
  · split at h
    · exact ⟨χ, _, _, h, hf, ImmLe.refl _, hs⟩
    · exact h.elim
  · split at h
    · rename_i p hp
      obtain ⟨χ', h1, h2, h3⟩ := pv_frz s hf hs hp
      exact ⟨χ', p, _, h, h1, h2, h3⟩
    · exact h.elim

theorem parts_ok {qt : Bool} {e : TypeId} {ρ : Operand → SV} (hρ : ∀ {χ : Nat → Color} {st : List Ob}, Fits E χ G ⟨env, st⟩ a w → ∀ x, RS χ w G (ρ x) (a.eval x)) : ∀ (l : List (Nat × Operand)) (n : Nat) {χ : Nat → Color} {st : List Ob} {K : List PV → List Ob → Prop},
    Fits E χ G ⟨env, st⟩ a w → vcParts P qt e (l.map fun (i, x) => (i, ρ x)) n st K →
    ∃ χ' ps st' us, K ps st' ∧ Fits E χ' G ⟨env, st'⟩ a w ∧ ImmLe χ χ' ∧ RF χ' w (szOf P e) ps us ∧ ps.length = l.length ∧
      (l.map fun (i, x) => (i, a.eval x)) = ((l.map fun x => a.eval x.2).zipIdx n).map (fun x => (x.2, x.1)) ∧ (∀ v ∈ l.map (fun x => a.eval x.2), v.cells.size = szOf P e) ∧
      us = (l.map fun x => a.eval x.2).flatMap fun v => v.cells.toList
  | [], n, χ, st, K, hf, h => ⟨χ, [], st, [], h, hf, ImmLe.refl _, rfl, rfl, rfl, by simp, rfl⟩
  | (i, x) :: l, n, χ, st, K, hf, h => by
    simp only [List.map_cons, vcParts, must_iff, beq_iff_eq] at h
    obtain ⟨rfl, h⟩ := h
    obtain ⟨χ1, p, st1, h, hf1, hi1, hp⟩ := pure_ok hf (RS_nilAt (hρ hf x)) h
    simp only [must_iff, Bool.and_eq_true, beq_iff_eq] at h
    obtain ⟨⟨ho, hsz⟩, h⟩ := h
    obtain ⟨χ2, ps, st2, us, hK, hf2, hi2, hr, hl, hz, hall, hus⟩ := parts_ok hρ l (i + 1) hf1 h
    have hsz' : (a.eval x).cells.size = szOf P e := by rw [← hsz, hp.cells_len]
    have hone : ∀ y ∈ (a.eval x).cells.toList, y.oneCell' = true := (RL_cells ho hp).one
    refine ⟨χ2, p :: ps, st2, (a.eval x).cells.toList ++ us, hK, hf2, hi1.trans hi2, ⟨_, us, rfl, hsz', hone, RP.mono (hi2.keep w) _ _ hp, hr⟩, by simp [hl], ?_, ?_, ?_⟩
    · simp [hz]
    · intro v hv
      rcases List.mem_cons.1 hv with h | h
      · subst h; exact hsz'
      · exact hall v h
    · simp [hus]

end
end Go.Sy
/- The walk's operations are what the model does: new rows, appends, stores. -/
set_option linter.all false
set_option maxHeartbeats 4000000
namespace Go.Sy
open Go.RowKit

section
variable {P : Program} {E : Ent} {χ : Nat → Color} {G : Gh} {env : List SV} {st : List Ob} {a : Act} {w : World}

theorem box_ok {t : TypeId} {x : SV} {vx : Value} {R : Res} (hf : Fits E χ G ⟨env, st⟩ a w) (hx : RS χ w G x vx) (h : vcBox t x st R) :
    ∃ s v st' w', R s st' ∧ (Instr.box t vx).run P w = .ok v w' ∧ Rel2 E ⟨env, st'⟩ a w' s v := by
  unfold vcBox at h
  simp only [must_iff] at h
  have hb := hf.box t (RSL_cells h.1 hx)
  refine ⟨_, .pointer (some ⟨w.heap.size, 0, none⟩), _, _, h.2, ?_, hb.two ⟨w.heap.size, upF_same _ _ _, rfl⟩⟩
  simp [Instr.box, newVar, newRow]

theorem RSL_ofV1 : ∀ (us : List Value), (us.all fun u => u.oneCell') = true → RSL χ w G (us.map fun u => .pure (ofV1 u)) us
  | [], _ => rfl
  | u :: us, h => by
    simp only [List.all_cons, Bool.and_eq_true] at h
    exact ⟨u, us, rfl, h.1, RP_ofV1 χ w u, RSL_ofV1 us h.2⟩

theorem alloc_ok {t : TypeId} {R : Res} (hf : Fits E χ G ⟨env, st⟩ a w) (h : vcAlloc P t st R) :
    ∃ s v st' w', R s st' ∧ (Instr.alloc t true (.tuple #[])).run P w = .ok v w' ∧ Rel2 E ⟨env, st'⟩ a w' s v := by
  unfold vcAlloc at h
  split at h
  · rename_i i hi
    split at h
    · rename_i z hz
      simp only [must_iff] at h
      have hb := hf.box t (RSL_ofV1 (χ := χ) (w := w) (G := G) z.cells.toList (by simpa using h.1))
      refine ⟨_, .pointer (some ⟨w.heap.size, 0, none⟩), _, _, h.2, ?_, hb.two ⟨w.heap.size, upF_same _ _ _, rfl⟩⟩
      simp [Instr.alloc, zeroValue, typeInfo, hi, hz, newVar, newRow]
    · exact h.elim
  · exact h.elim

theorem ownsRow_new (w' : World) (b e sz c n : Nat) (cur : Array Value) (us : List Value) (hh : w'.heap[b]? = some (.cells cur e (0, 0))) (hle : n ≤ c) (hm : c ≤ maxLen) (hs : cur.size = c * sz) (hu : us.length = n * sz) (htk : cur.toList.take (n * sz) = us) :
    w'.ownsRow 0 e sz (.slice (some ⟨b, 0, none⟩) n c) n us := ⟨hu, .inr ⟨b, c, cur, rfl, Nat.zero_le _, hh, hle, hm, hs, htk⟩⟩

theorem buildSlice_ok {qt : Bool} {t : TypeId} {len : Nat} {parts : Array (Nat × Operand)} {ρ : Operand → SV} {vec : Bool} {R : Res} (hρ : ∀ {χ : Nat → Color} {st : List Ob}, Fits E χ G ⟨env, st⟩ a w → ∀ x, RS χ w G (ρ x) (a.eval x))
    (hf : Fits E χ G ⟨env, st⟩ a w) (h : vcBuildSlice P qt t len (parts.toList.map fun (i, x) => (i, ρ x)) vec st R) :
    ∃ s v st' w', R s st' ∧ (Instr.buildSlice t len (parts.map fun (i, x) => (i, a.eval x))).run P w = .ok v w' ∧ Rel2 E ⟨env, st'⟩ a w' s v := by
  unfold vcBuildSlice at h
  split at h
  · rename_i e hu
    split at h
    · rename_i i hi
      simp only [must_iff, Bool.and_eq_true, beq_iff_eq, decide_eq_true_eq] at h
      obtain ⟨⟨⟨⟨hlen, hsm⟩, hpos⟩, hz⟩, h⟩ := h
      have hlen : parts.toList.length = len := by simpa using hlen
      cases hz0 : i.zero with
      | none => simp [hz0] at hz
      | some z =>
        have hsz : szOf P e = i.size := by simp [szOf, hi]
        obtain ⟨χ', ps, st', us, hR, hf', him, hr, hl, hzip, hall, hus⟩ := parts_ok hρ parts.toList 0 hf h
        rw [hsz] at hr hall
        have hul : us.length = len * i.size := by rw [hr.len, hl, hlen]
        -- the cells
        have hrun : ∃ cells : Array Value, cells.toList = us ∧ (Instr.buildSlice t len (parts.map fun (i, x) => (i, a.eval x))).run P w = .ok (.slice (some ⟨w.heap.size, 0, none⟩) len len) (w.alloc (.cells cells e)) := by
          by_cases h0 : len = 0
          · subst h0
            have hp0 : parts = #[] := by
              apply Array.toList_inj.1
              simpa using List.eq_nil_of_length_eq_zero hlen
            refine ⟨#[], ?_, ?_⟩
            · have : us = [] := List.eq_nil_of_length_eq_zero (by omega)
              simp [this]
            · simp [Instr.buildSlice, run_underlying hu, sizeOf, typeInfo, hi, hp0, Instr.fill, newRow]
              rw [show Array.range 0 = #[] from rfl]
              simp
          · refine ⟨us.toArray, rfl, ?_⟩
            refine run_buildSlice w t e len _ us.toArray i z hu hi hz0 (by omega) (by have := Nat.mul_pos (Nat.pos_of_ne_zero h0) hpos; omega) ?_
            rw [Array.toList_map, hzip, hus]
            exact Great.fill_whole hpos _ _ hall (by simp [← hlen])
        obtain ⟨cells, hc, hrun⟩ := hrun
        have hbl : ∀ b, b < w.heap.size → (w.alloc (.cells cells e)).heap[b]? = w.heap[b]? := fun b hb => Below.heap_alloc w _ b hb
        have hmx : len ≤ maxLen := by
          have : len ≤ len * i.size := Nat.le_mul_of_pos_right _ hpos
          simp only [maxLen]; omega
        have hcs : cells.size = len * i.size := by rw [← hul, ← hc]; simp
        cases vec with
        | true =>
          have hown : (w.alloc (.cells cells e)).ownsRow 0 e i.size (.slice (some ⟨w.heap.size, 0, none⟩) len len) ps.length us := by
            rw [hl, hlen]
            exact ownsRow_new _ _ _ _ _ _ cells us (heap_alloc_new w _) (Nat.le_refl _) hmx hcs hul (by rw [hc, List.take_of_length_le (by omega)])
          obtain ⟨χ2, hf2, hs2⟩ := hf'.newVec (w' := w.alloc (.cells cells e)) (e := e) (nl := false) (xs := ps) rfl rfl rfl (by simp) hbl hown hr (by simp) (fun g hg => by simp [Value.ownBlock] at hg; omega)
          exact ⟨_, _, _, _, hR, hrun, hf2.two hs2⟩
        | false =>
          have hk : Keep χ' w (upF χ' w.heap.size .imm) (w.alloc (.cells cells e)) := fun b hlt hi => ⟨by rw [upF_ne _ _ (by omega)]; exact hi, hbl b hlt⟩
          have hf2 : Fits E (upF χ' w.heap.size .imm) G ⟨env, st'⟩ a (w.alloc (.cells cells e)) := hf'.ext rfl rfl rfl (by simp) (fun b hb => ⟨upF_ne _ _ (by omega), hbl b hb⟩)
          refine ⟨_, _, _, _, hR, hrun, hf2.two ?_⟩
          refine ⟨?_, _, by rw [hl, hlen]⟩
          refine ⟨_, len, us, by rw [hl, hlen], by rw [hl, hlen]; exact Nat.le_refl _, hmx, fun h => (by cases h), by simp, RF.mono hk _ _ _ hr, fun k u hku => ⟨_, rfl, upF_same _ _ _, ?_⟩⟩
          rw [add_pl, Nat.zero_add, World.cell?_alloc_new, ← hku, ← hc]
          simp
    · exact h.elim
  · exact h.elim

theorem refs_ok {ρ : Operand → SV} (hρ : ∀ x, RS χ w G (ρ x) (a.eval x)) : ∀ (l : List (Nat × Operand)) (n : Nat), mrefsB (l.map fun (i, x) => (i, ρ x)) n = true →
    RSL χ w G ((l.map fun (i, x) => (i, ρ x)).map (·.2)) (l.map fun x => a.eval x.2) ∧ (l.map fun (i, x) => (i, a.eval x)) = ((l.map fun x => a.eval x.2).zipIdx n).map (fun x => (x.2, x.1)) ∧
      (∀ v ∈ l.map (fun x => a.eval x.2), v.cells.size = 1) ∧ ((l.map fun x => a.eval x.2).flatMap fun v => v.cells.toList) = l.map fun x => a.eval x.2
  | [], n, h => ⟨rfl, rfl, by simp, rfl⟩
  | (i, x) :: l, n, h => by
    simp only [List.map_cons, mrefsB] at h
    split at h
    · rename_i o ho
      simp only [Bool.and_eq_true, beq_iff_eq] at h
      obtain ⟨rfl, h⟩ := h
      obtain ⟨h1, h2, h3, h4⟩ := refs_ok hρ l (i + 1) h
      have hx := hρ x
      rw [ho] at hx
      obtain ⟨g, hG, hu⟩ := hx
      refine ⟨⟨_, _, rfl, ?_, hρ x, h1⟩, by simp [h2], ?_, ?_⟩
      · show (a.eval x).oneCell' = true
        rw [hu]; rfl
      · intro v hv
        rcases List.mem_cons.1 hv with h | h
        · show v.cells.size = 1
          have h : v = a.eval x := h
          rw [h, hu]; rfl
        · exact h3 v h
      · simp only [List.map_cons, List.flatMap_cons, h4]
        rw [hu]; rfl
    · cases h

theorem buildRefs_ok {t : TypeId} {len : Nat} {parts : Array (Nat × Operand)} {ρ : Operand → SV} {R : Res} (hρ : ∀ x, RS χ w G (ρ x) (a.eval x))
    (hf : Fits E χ G ⟨env, st⟩ a w) (hm : mrefsB (parts.toList.map fun (i, x) => (i, ρ x)) 0 = true) (h : vcBuildRefs P t len (parts.toList.map fun (i, x) => (i, ρ x)) st R) :
    ∃ s v st' w', R s st' ∧ (Instr.buildSlice t len (parts.map fun (i, x) => (i, a.eval x))).run P w = .ok v w' ∧ Rel2 E ⟨env, st'⟩ a w' s v := by
  unfold vcBuildRefs at h
  split at h
  · rename_i e hu
    split at h
    · rename_i i hi
      simp only [must_iff, Bool.and_eq_true, beq_iff_eq, decide_eq_true_eq] at h
      obtain ⟨⟨⟨⟨hlen, hsm⟩, hsz⟩, hz⟩, h⟩ := h
      have hlen : parts.toList.length = len := by simpa using hlen
      cases hz0 : i.zero with
      | none => simp [hz0] at hz
      | some z =>
        have hpos : 0 < i.size := by omega
        obtain ⟨hl, hzip, hall, hus⟩ := refs_ok hρ parts.toList 0 hm
        have hne : len ≠ 0 := by
          rintro rfl
          have : parts.toList = [] := List.eq_nil_of_length_eq_zero hlen
          rw [this] at hm
          simp [mrefsB] at hm
        have hrun : (Instr.buildSlice t len (parts.map fun (i, x) => (i, a.eval x))).run P w = .ok (.slice (some ⟨w.heap.size, 0, none⟩) len len) (w.alloc (.cells (parts.toList.map fun x => a.eval x.2).toArray e)) := by
          refine run_buildSlice w t e len _ (parts.toList.map fun x => a.eval x.2).toArray i z hu hi hz0 (by rw [hsz]; omega) (by have := Nat.mul_pos (Nat.pos_of_ne_zero hne) hpos; omega) ?_
          rw [Array.toList_map, hzip]
          exact (Great.fill_whole hpos _ _ (by rw [hsz]; exact hall) (by simp [← hlen])).trans (by rw [hus])
        have hb := hf.box e hl
        exact ⟨_, _, _, _, h, hrun, hb.two ⟨w.heap.size, len, upF_same _ _ _, rfl, Nat.le_refl _, by simp only [maxLen]; omega⟩⟩
    · exact h.elim
  · exact h.elim

theorem madeCells_succ (z : Array Value) (n : Nat) : (madeCells z ((n + 1) * z.size)).toList = z.toList ++ (madeCells z (n * z.size)).toList := by
  apply List.ext_getElem
  · simp [madeCells, Nat.add_mul]; omega
  · intro k h1 h2
    have hk : k < (n + 1) * z.size := by simpa [madeCells] using h1
    simp only [madeCells, Array.toList_map, Array.toList_range, List.getElem_map, List.getElem_range]
    rw [List.getElem_append]
    split
    · rename_i hlt
      have hlt : k < z.size := by simpa using hlt
      rw [Nat.mod_eq_of_lt hlt, getElem!_pos z k hlt]
      simp
    · rename_i hge
      have hge : z.size ≤ k := by simpa using hge
      simp only [List.getElem_map, List.getElem_range, Array.length_toList]
      rw [Nat.mod_eq_sub_mod hge]

theorem RF_made {sz : Nat} {z : Value} (hz : z.cells.size = sz) (ho : (z.cells.all fun u => u.oneCell') = true) : ∀ n : Nat, RF χ w sz (List.replicate n (ofV z)) (madeCells z.cells (n * sz)).toList
  | 0 => by simp [RF, madeCells]
  | n + 1 => by
    subst hz
    rw [madeCells_succ]
    exact ⟨z, _, rfl, rfl, fun y hy => by
      rw [Array.all_eq_true'] at ho
      exact ho y (by simpa using hy), RP_ofV χ w z, RF_made rfl ho n⟩

theorem makeSlice_ok {t : TypeId} {l c : SV} {vl vc : Value} {R : Res} (hf : Fits E χ G ⟨env, st⟩ a w) (hl : RS χ w G l vl) (hc : RS χ w G c vc) (h : vcMakeSlice P t l c st R) :
    ∃ s v st' w', R s st' ∧ (Instr.makeSlice t vl vc).run P w = .ok v w' ∧ Rel2 E ⟨env, st'⟩ a w' s v := by
  unfold vcMakeSlice at h
  split at h
  · rename_i e n m hu
    simp only [RS_val] at hl hc
    subst hl hc
    split at h
    · rename_i i hi
      split at h
      · rename_i z hz
        simp only [must_iff, Bool.and_eq_true, beq_iff_eq, decide_eq_true_eq] at h
        obtain ⟨⟨⟨hpos, hzs⟩, hone⟩, ⟨h0, hnm, hb, hm⟩, hR⟩ := h
        have hrun := run_make (P := P) w t e i z hu hi hz .i64 .i64 n m h0 hnm (Int.le_trans (by rw [Int.mul_comm]; exact hb) (by decide)) (by omega)
        have hbl : ∀ b, b < w.heap.size → (w.alloc (.cells (madeCells z.cells (m.toNat * i.size)) e)).heap[b]? = w.heap[b]? := fun b hb => Below.heap_alloc w _ b hb
        have hrf := RF_made (χ := χ) (w := w) hzs (by rw [← Array.all_toList]; exact hone) n.toNat
        have hown : (w.alloc (.cells (madeCells z.cells (m.toNat * i.size)) e)).ownsRow 0 e i.size (.slice (some ⟨w.heap.size, 0, none⟩) n.toNat m.toNat) (List.replicate n.toNat (ofV z)).length (madeCells z.cells (n.toNat * i.size)).toList := by
          rw [List.length_replicate]
          refine ownsRow_new _ _ _ _ _ _ _ _ (heap_alloc_new w _) (show n.toNat ≤ m.toNat by omega) (by simp only [maxLen]; omega) (by simp [madeCells]) (by simp [madeCells]) ?_
          apply List.ext_getElem
          · have hle : min n.toNat m.toNat = n.toNat := by omega
            simp [madeCells, hle]
          · intro k h1 h2
            simp [madeCells]
        obtain ⟨χ2, hf2, hs2⟩ := hf.newVec (w' := w.alloc (.cells (madeCells z.cells (m.toNat * i.size)) e)) (e := e) (nl := false) rfl rfl rfl (by simp) hbl hown hrf (by simp) (fun g hg => by simp [Value.ownBlock] at hg; omega)
        exact ⟨_, _, _, _, hR, hrun, hf2.two hs2⟩
      · exact h.elim
    · exact h.elim
  · exact h.elim

theorem convBytes_ok {s d : TypeId} {b : ByteArray} {e : TypeId} {R : Res} (hf : Fits E χ G ⟨env, st⟩ a w) (hd : P.underlying d = some (.slice e)) (h : vcConv P s d (vS b) st fun s' => R s' st) :
    ∃ s' v st' w', R s' st' ∧ (convert s d (.string b)).run P w = .ok v w' ∧ Rel2 E ⟨env, st'⟩ a w' s' v := by
  simp only [vcConv, hd] at h
  split at h
  · rename_i hh; cases hh
  · rename_i e' hs hd'
    injection hd' with hd'
    injection hd' with hd'
    subst hd'
    simp only [must_iff] at h
    obtain ⟨he, hsz, hR⟩ := h
    have he : P.underlying e = some (.int .u8) := by unfold isU8 at he; split at he <;> simp_all
    have hbl := Lib.bytesWorld_at_old w e b
    have hf2 : Fits E (upF χ w.heap.size .imm) G ⟨env, st⟩ a (Lib.bytesWorld w e b) := hf.ext rfl rfl rfl (by rw [Lib.bytesWorld_size]; omega) (fun k hk => ⟨upF_ne _ _ (by omega), hbl k hk⟩)
    have hl : (b.data.toList.map fun c => PV.val (.int .u8 c.toNat)).length = b.size := by simp
    refine ⟨_, _, _, _, hR, Lib.run_convert_string_bytes w s d e b hs hd he, hf2.two ?_⟩
    have hu8 : ∀ l : List UInt8, RF (upF χ w.heap.size .imm) (Lib.bytesWorld w e b) 1 (l.map fun c => PV.val (.int .u8 c.toNat)) (l.map fun c => .int .u8 c.toNat) := by
      intro l
      induction l with
      | nil => rfl
      | cons c l ih => exact ⟨.int .u8 c.toNat, _, rfl, rfl, by simp [Value.cells, Value.oneCell'], rfl, ih⟩
    refine ⟨_, _, _, by rw [hl], by rw [hl]; exact grownCap_ge w b.size 0 e, grownCap_le_maxLen w b.size 0 e (by simp only [maxLen]; omega), fun h => (by cases h), by simp, hu8 _, fun k u hk => ⟨_, rfl, upF_same _ _ _, ?_⟩⟩
    rw [add_pl, Nat.zero_add]
    have hkl : k < b.data.toList.length := by
      have := (List.getElem?_eq_some_iff.1 hk).1
      simpa using this
    rw [Lib.bytesWorld_cell w e b k (by simpa using hkl), ← hk]
    rw [List.getElem?_map, List.getElem?_eq_getElem hkl, List.getD_eq_getElem?_getD, List.getElem?_eq_getElem hkl]
    rfl
  · exact h.elim


/-- An append of nothing onto a full row. -/
theorem append_none {t ty e : TypeId} {i : TypeInfo} {a0 : Addr} {n : Nat} {A : Option Addr} {c : Nat} (hu : P.underlying t = some (.slice e)) (hi : P.info? e = some i) :
    (Builtin.append_ #[t, t] ty #[.slice (some a0) n n, .slice A 0 c]).run P w = .ok (.slice (some a0) n n) w := by
  cases A with
  | none => simp [Builtin.append_, run_underlying hu, sizeOf, typeInfo, hi, Builtin.lenOf, Builtin.firstCells, storeCells]
  | some ad =>
    have hfc := run_firstCells_some (P := P) w i.size 0 ad 0 c [] (by simp) (by simp)
    simp [Builtin.append_, run_underlying hu, sizeOf, typeInfo, hi, Builtin.lenOf, hfc, storeCells]
theorem ownsRow_base {b e sz n : Nat} {v : Value} {us : List Value} (h : w.ownsRow b e sz v n us) : w.ownsRow 0 e sz v n us := by
  obtain ⟨h1, h2 | ⟨g, c, cur, h3, h4, h5⟩⟩ := h
  · exact ⟨h1, .inl h2⟩
  · exact ⟨h1, .inr ⟨g, c, cur, h3, Nat.zero_le _, h5⟩⟩
theorem ownsRow_nil {b e sz n : Nat} {us : List Value} (h : w.ownsRow b e sz (.slice none 0 0) n us) : n = 0 := by
  obtain ⟨h1, h2 | ⟨g, c, cur, h3, h4, h5⟩⟩ := h
  · exact h2.2
  · cases h3
theorem ownsRow_ge {b e sz n : Nat} {v : Value} {us : List Value} (h : w.ownsRow b e sz v n us) {g : Nat} (hg : v.ownBlock = some g) : b ≤ g := by
  obtain ⟨h1, h2 | ⟨g', c, cur, h3, h4, h5⟩⟩ := h
  · rw [h2.1] at hg; cases hg
  · rw [h3] at hg; simp [Value.ownBlock] at hg; omega

theorem append_ok {t t' ty : TypeId} {s x : SV} {vs vx : Value} {R : Res} (hf : Fits E χ G ⟨env, st⟩ a w) (hs : RS χ w G s vs) (hx : RS χ w G x vx) (h : vcAppend P t t' s x st R) :
    ∃ r v st' w', R r st' ∧ (Builtin.append_ #[t, t'] ty #[vs, vx]).run P w = .ok v w' ∧ Rel2 E ⟨env, st'⟩ a w' r v := by
  unfold vcAppend at h
  split at h
  · rename_i e hu
    split at h
    · rename_i i hi
      simp only [must_iff, Bool.and_eq_true, beq_iff_eq, decide_eq_true_eq] at h
      obtain ⟨⟨⟨⟨rfl, hpos⟩, hbpos⟩, hz⟩, h⟩ := h
      cases hz0 : i.zero with
      | none => simp [hz0] at hz
      | some z =>
        have hzs : z.cells.size = i.size := by simpa [hz0] using hz
        obtain ⟨sz', ys, A, c, us, ⟨hsz, h⟩, rfl, hle, hmx, hr, hA, hcell⟩ := elems_reads hx hf.2.1 h
        -- the new elements' cells
        have hul : us.length = ys.length * i.size := by
          rcases Bool.or_eq_true_iff.1 hsz with h | h
          · rw [hr.len, beq_iff_eq.1 h]
          · have : ys = [] := by simpa using h
            subst this
            simp [RF] at hr
            simp [hr]
        have hr : RF χ w i.size ys us := by
          rcases Bool.or_eq_true_iff.1 hsz with h | h
          · rw [← beq_iff_eq.1 h]; exact hr
          · have : ys = [] := by simpa using h
            subst this
            simpa [RF] using hr
        -- a row of one's own, and what the append makes of it
        have key : ∀ (hd : Value) (xs : List PV) (ws : List Value), w.ownsRow 0 e i.size hd xs.length ws → (xs.length + ys.length) * i.bytes ≤ 140737488355328 →
            ∃ v' w', (Builtin.append_ #[t', t'] ty #[hd, .slice A ys.length c]).run P w = .ok v' w' ∧ w'.ownsRow 0 e i.size v' (xs.length + ys.length) (ws ++ us) ∧ w.grownBy w' hd.ownBlock ∧
              (v' = .slice none 0 0 ↔ hd = .slice none 0 0 ∧ ys.length = 0) ∧ (v'.ownBlock = hd.ownBlock ∨ v'.ownBlock = some w.heap.size) := by
          intro hd xs ws hown hb
          have hlen63 : xs.length + ys.length ≤ maxLen := by
            have := Nat.le_mul_of_pos_right (xs.length + ys.length) hbpos
            simp only [maxLen]; omega
          cases A with
          | none =>
            have := hA rfl
            have h0 : ys.length = 0 := by omega
            have hy : ys = [] := List.eq_nil_of_length_eq_zero h0
            subst hy
            have hus : us = [] := by simpa [RF] using hr
            subst hus
            refine ⟨hd, w, ?_, by simpa using hown, World.grownBy.refl w _, by simp, .inl rfl⟩
            rcases hown.2 with ⟨rfl, hn⟩ | ⟨g, cap, cur, rfl, _, _, hnc, _⟩
            · simp [Builtin.append_, run_underlying hu, sizeOf, typeInfo, hi, Builtin.lenOf, Builtin.firstCells]
            · simp [Builtin.append_, run_underlying hu, sizeOf, typeInfo, hi, Builtin.lenOf, Builtin.firstCells, hnc, storeCells]
          | some ad =>
            exact run_append_own_at (P := P) w 0 t' ty e i z i.size i.bytes hu hi hz0 rfl rfl hzs hpos hd xs.length ws hown ad ys.length c us hul
              (fun j u hu => by obtain ⟨ad', e', hc⟩ := hcell j u hu; injection e' with e'; subst e'; exact hc) hr.one hlen63 hb (Nat.zero_le _)
        split at h
        · -- onto nil
          rename_i sz0
          obtain ⟨A0, c0, us0, rfl, g2, g3, g4, g5, g6, g7⟩ := hs
          have hA0 : A0 = none := g5.1 rfl
          subst hA0
          have hc0 := g4 rfl
          subst hc0
          obtain ⟨v', w', hrun, hown', hg, hnil, hat⟩ := key (.slice none 0 0) [] [] ⟨by simp, .inl ⟨rfl, rfl⟩⟩ (by simpa using h.1)
          simp only [List.length_nil, Nat.zero_add, List.nil_append] at hown'
          have hbl : ∀ b, b < w.heap.size → w'.heap[b]? = w.heap[b]? := fun b hb => hg.block b hb (by simp [Value.ownBlock])
          obtain ⟨χ2, hf2, hs2⟩ := hf.newVec (w' := w') (nl := ys.isEmpty) hg.os hg.tape hg.output hg.size hbl hown' hr
            (by rw [hnil]; simp [List.isEmpty_iff]) (fun g hg' => by
              rcases hat with e1 | e1
              · rw [e1] at hg'; simp [Value.ownBlock] at hg'
              · rw [e1] at hg'; injection hg' with hg'; omega)
          exact ⟨_, v', _, w', h.2, by simpa using hrun, hf2.two hs2⟩
        · -- onto a vec
          rename_i o n hh0
          split at h
          · rename_i m e' sz nl xs hob
            obtain ⟨⟨⟨rfl, rfl⟩, hnm⟩, hb, hR⟩ := h
            have hnm' : m = n := hnm.symm
            subst hnm'
            obtain ⟨_, m', hd0, hG, _, hv⟩ := hs
            obtain ⟨hd, ws, hG', hown, hrx, hnl, hcol⟩ := hf.2.1 o _ hob
            rw [hG] at hG'
            injection hG' with hG'
            injection hG' with e1 e2
            subst e1 e2
            have := hv rfl
            subst this
            obtain ⟨v', w', hrun, hown', hg, hnil, hat⟩ := key vs xs ws hown hb
            have hlt : o < st.length := (List.getElem?_eq_some_iff.1 hob).1
            have hbl : ∀ b, b < w.heap.size → χ b ≠ .own o → w'.heap[b]? = w.heap[b]? := fun b hb hne => hg.block b hb (fun e => hne (hcol b e.symm))
            -- the colours
            have hk : Keep χ w (fun b => if v'.ownBlock = some b then .own o else χ b) w' := fun b hb hi => by
              have hne : χ b ≠ .own o := by rw [hi]; simp
              refine ⟨?_, hbl b hb hne⟩
              simp only
              rw [if_neg (fun e => ?_)]
              · exact hi
              · rcases hat with e1 | e1
                · exact hne (hcol b (by rw [← e1]; exact e))
                · rw [e1] at e; injection e with e; omega
            refine ⟨_, v', _, w', hR, hrun, ?_⟩
            have hf2 : Fits E (fun b => if v'.ownBlock = some b then .own o else χ b) (upF G o (some (.ver (m' + 1) v'))) ⟨env, st.set o (.vec (m' + 1) e' i.size (nl && ys.isEmpty) (xs ++ ys))⟩ a w' := by
              refine hf.set hlt hg.os hg.tape hg.output hg.size (fun b hb hne => ⟨?_, hbl b hb hne⟩) (fun o' ho' => upF_ne _ _ ho') ⟨fun g hg' => (by rw [hG] at hg'; cases hg'), fun n' hd' hh => ?_⟩ ?_
              · rw [if_neg (fun e => ?_)]
                rcases hat with e1 | e1
                · exact hne (hcol b (by rw [← e1]; exact e))
                · rw [e1] at e; injection e with e; omega
              · rw [hG] at hh
                injection hh with hh
                injection hh with e1 e2
                subst e1 e2
                exact ⟨m' + 1, v', upF_same _ _ _, by omega, fun h => by omega⟩
              · refine ⟨v', ws ++ us, upF_same _ _ _, by rw [List.length_append]; exact hown', (RF.mono hk _ _ _ hrx).append (RF.mono hk _ _ _ hr), ?_, fun g hg' => by simp [hg']⟩
                rw [hnil, Bool.and_eq_true, hnl]
                simp [List.isEmpty_iff]
            refine hf2.two ⟨?_, m' + 1, v', upF_same _ _ _, Nat.le_refl _, fun _ => rfl⟩
            rcases hown'.2 with ⟨rfl, _⟩ | ⟨g, c, cur, rfl, _⟩ <;> rfl
          · exact h.elim
        · -- onto a full row
          rename_i sz0 xs hh0
          obtain ⟨rfl, hb, hR0, hR1⟩ := h
          obtain ⟨⟨A0, c0, us0, rfl, g2, g3, g4, g5, g6, g7⟩, A0', e0⟩ := hs
          simp only [Value.slice.injEq] at e0
          obtain ⟨rfl, -, rfl⟩ := e0
          cases A0 with
          | none => exact absurd (g5.2 rfl) (by simp)
          | some a0 =>
            by_cases hys : ys = []
            · subst hys
              have hus : us = [] := by simpa [RF] using hr
              subst hus
              refine ⟨_, .slice (some a0) xs.length xs.length, _, w, hR0 rfl, ?_, hf.two ⟨⟨some a0, xs.length, us0, rfl, g2, g3, g4, g5, g6, g7⟩, some a0, rfl⟩⟩
              exact append_none hu hi
            · have hm : ys.length ≠ 0 := fun e => hys (List.eq_nil_of_length_eq_zero e)
              cases A with
              | none => have := hA rfl; omega
              | some ad =>
                have hlen63 : xs.length + ys.length ≤ maxLen := by
                  have := Nat.le_mul_of_pos_right (xs.length + ys.length) hbpos
                  simp only [maxLen]; omega
                obtain ⟨v', w', hrun, hown', hg⟩ := run_append_arg_grows (P := P) w t' ty e i z i.size i.bytes hu hi hz0 rfl rfl hzs hpos a0 xs.length xs.length us0 g6.len
                  (fun j u hu => by obtain ⟨ad', e', _, hc⟩ := g7 j u hu; injection e' with e'; subst e'; exact hc) ad ys.length c us hul
                  (fun j u hu => by obtain ⟨ad', e', hc⟩ := hcell j u hu; injection e' with e'; subst e'; exact hc) (by omega) hlen63 hb
                have hbl : ∀ b, b < w.heap.size → w'.heap[b]? = w.heap[b]? := fun b hb => hg.block b hb (by simp)
                have hown0 : w'.ownsRow 0 e i.size v' (xs ++ ys).length (us0 ++ us) := by
                  rw [List.length_append]
                  exact ownsRow_base hown'
                obtain ⟨χ2, hf2, hs2⟩ := hf.newVec (w' := w') (nl := false) hg.os hg.tape hg.output hg.size hbl hown0 (g6.append hr)
                  (by
                    refine ⟨fun h => (by cases h), fun h => ?_⟩
                    subst h
                    have := ownsRow_nil hown'
                    omega) (fun g hg' => ownsRow_ge hown' hg')
                exact ⟨_, v', _, w', hR1 hys, hrun, hf2.two hs2⟩
        · exact h.elim
    · exact h.elim
  · exact h.elim

/-- The bytes of a string behind a row of one's own, and where it lies then. -/
theorem run_append_own_string_at (base : Nat) (t u ty e : TypeId) (i : TypeInfo) (ht : P.underlying t = some (.slice e)) (hu : P.underlying u = some .string) (hi : P.info? e = some i) (hz : i.zero = some (.int .u8 0))
    (hsize : i.size = 1) (hby : i.bytes = 1)
    (v : Value) (n : Nat) (xs : List Value) (hown : w.ownsRow base e 1 v n xs) (s : ByteArray)
    (h63 : n + s.size ≤ maxLen) (hbytes : n + s.size ≤ 140737488355328) (hbase : base ≤ w.heap.size) :
    ∃ v' w', (Builtin.append_ #[t, u] ty #[v, .string s]).run P w = .ok v' w' ∧ w'.ownsRow base e 1 v' (n + s.size) (xs ++ Lib.strCells s) ∧ w.grownBy w' v.ownBlock ∧
      (v' = .slice none 0 0 ↔ v = .slice none 0 0 ∧ s.size = 0) ∧ (v'.ownBlock = v.ownBlock ∨ v'.ownBlock = some w.heap.size) := by
  obtain ⟨v', w', h1, h2, h3, h4⟩ := Lib.run_append_own_string (P := P) w base t u ty e i ht hu hi hz hsize hby v n xs hown s h63 hbytes hbase
  refine ⟨v', w', h1, h2, h3, h4, ?_⟩
  have hsmall : n + s.size ≤ 9223372036854775807 := by simp only [maxLen] at h63; omega
  have hxl : xs.length = n := by simpa using hown.1
  rcases hown.2 with ⟨rfl, rfl⟩ | ⟨g, cap, cur, rfl, hbg, hg, hnc, hcm, hcs, htake⟩
  · by_cases hm : s.size = 0
    · exact .inl (by rw [h4.2 ⟨rfl, hm⟩])
    · have hr := run_append_nil_string (P := P) w t u ty e i (.int .u8 0) ht hu hi hz s (by omega) (by omega) (by rw [hby]; omega)
      rw [hr] at h1
      injection h1 with e1 e2
      exact .inr (by rw [← e1]; rfl)
  · by_cases hroom : n + s.size ≤ cap
    · have hcs' : cur.size = cap := by simpa using hcs
      have hr := Lib.run_append_room_string (P := P) w t u ty e i ht hu hi hsize g n cap cur hg s hroom (by omega)
      rw [hr] at h1
      injection h1 with e1 e2
      exact .inl (by rw [← e1]; rfl)
    · have holds : ∀ j u, xs[j]? = some u → w.cell? ((⟨g, 0, none⟩ : Addr).add j) = some u := hown.cells (g := g) rfl
      have hr := Lib.run_append_grow_string (P := P) w t u ty e i (.int .u8 0) ht hu hi hz ⟨g, 0, none⟩ n cap xs (by rw [hsize]; simpa using hxl) holds s (by omega) (by omega) (by rw [hby]; exact growslice_fits (by omega) (by omega))
      rw [hr] at h1
      injection h1 with e1 e2
      exact .inr (by rw [← e1]; rfl)
theorem RF_strCells (s : ByteArray) : RF χ w 1 (s.data.toList.map fun c => .val (.int .u8 c.toNat)) (Lib.strCells s) := by
  unfold Lib.strCells
  generalize s.data.toList = l
  induction l with
  | nil => rfl
  | cons c l ih => exact ⟨.int .u8 c.toNat, _, rfl, rfl, fun y hy => by simp [Value.cells] at hy; subst hy; rfl, rfl, ih⟩
theorem appendS_ok {t t' ty : TypeId} {s x : SV} {vs vx : Value} {R : Res} (hstr : P.underlying t' = some .string) (hf : Fits E χ G ⟨env, st⟩ a w) (hs : RS χ w G s vs) (hx : RS χ w G x vx) (h : vcAppendS P t s x st R) :
    ∃ r v st' w', R r st' ∧ (Builtin.append_ #[t, t'] ty #[vs, vx]).run P w = .ok v w' ∧ Rel2 E ⟨env, st'⟩ a w' r v := by
  unfold vcAppendS at h
  split at h
  rotate_left
  · exact h.elim
  rename_i e hu
  split at h
  rotate_left
  · exact h.elim
  rename_i i hi
  simp only [must_iff, Bool.and_eq_true, decide_eq_true_eq] at h
  obtain ⟨⟨⟨hsz, hby⟩, hz⟩, h⟩ := h
  have hz0 : i.zero = some (.int .u8 0) := by
    split at hz
    · assumption
    · cases hz
  split at h
  rotate_left
  · exact h.elim
  rename_i b
  have hvx : vx = .string b := hx
  subst hvx
  split at h
  rotate_left
  · exact h.elim
  rename_i o n
  split at h
  rotate_left
  · exact h.elim
  rename_i m e' sz nl xs hob
  simp only [must_iff, Bool.and_eq_true, beq_iff_eq] at h
  obtain ⟨⟨⟨rfl, rfl⟩, hnm⟩, hb, hR⟩ := h
  have hnm' : m = n := hnm.symm
  subst hnm'
  obtain ⟨_, m', hd0, hG, _, hv⟩ := hs
  obtain ⟨hd, ws, hG', hown, hrx, hnl, hcol⟩ := hf.2.1 o _ hob
  rw [hG] at hG'
  injection hG' with hG'
  injection hG' with e1 e2
  subst e1 e2
  have := hv rfl
  subst this
  obtain ⟨v', w', hrun, hown', hg, hnil, hat⟩ := run_append_own_string_at (ty := ty) 0 t t' e' i hu hstr hi hz0 hsz hby vs xs.length ws hown b (by unfold maxLen; omega) hb (Nat.zero_le _)
  have hlt : o < st.length := (List.getElem?_eq_some_iff.1 hob).1
  have hbl : ∀ b, b < w.heap.size → χ b ≠ .own o → w'.heap[b]? = w.heap[b]? := fun b hb hne => hg.block b hb (fun e => hne (hcol b e.symm))
  have hk : Keep χ w (fun b => if v'.ownBlock = some b then .own o else χ b) w' := fun b hb hi => by
    have hne : χ b ≠ .own o := by rw [hi]; simp
    refine ⟨?_, hbl b hb hne⟩
    simp only
    rw [if_neg (fun e => ?_)]
    · exact hi
    · rcases hat with e1 | e1
      · exact hne (hcol b (by rw [← e1]; exact e))
      · rw [e1] at e; injection e with e; omega
  refine ⟨_, v', _, w', hR, hrun, ?_⟩
  have hf2 : Fits E (fun b => if v'.ownBlock = some b then .own o else χ b) (upF G o (some (.ver (m' + 1) v'))) ⟨env, st.set o (.vec (m' + 1) e' 1 (nl && b.data.toList.isEmpty) (xs ++ b.data.toList.map fun c => .val (.int .u8 c.toNat)))⟩ a w' := by
    refine hf.set hlt hg.os hg.tape hg.output hg.size (fun b hb hne => ⟨?_, hbl b hb hne⟩) (fun o' ho' => upF_ne _ _ ho') ⟨fun g hg' => (by rw [hG] at hg'; cases hg'), fun n' hd' hh => ?_⟩ ?_
    · rw [if_neg (fun e => ?_)]
      rcases hat with e1 | e1
      · exact hne (hcol b (by rw [← e1]; exact e))
      · rw [e1] at e; injection e with e; omega
    · rw [hG] at hh
      injection hh with hh
      injection hh with e1 e2
      subst e1 e2
      exact ⟨m' + 1, v', upF_same _ _ _, by omega, fun h => by omega⟩
    · refine ⟨v', ws ++ Lib.strCells b, upF_same _ _ _, by rw [List.length_append, List.length_map]; exact hown', (RF.mono hk _ _ _ hrx).append (RF_strCells b), ?_, fun g hg' => by simp [hg']⟩
      rw [hnil, Bool.and_eq_true, hnl]
      refine and_congr_right fun _ => ?_
      rw [List.isEmpty_iff, ← List.length_eq_zero_iff]
      exact Iff.rfl
  refine hf2.two ⟨?_, m' + 1, v', upF_same _ _ _, Nat.le_refl _, fun _ => rfl⟩
  rcases hown'.2 with ⟨rfl, _⟩ | ⟨g, c, cur, rfl, _⟩ <;> rfl

/-- An append that leaves the objects as they are. -/
theorem appendQ_ok {t t' ty : TypeId} {s x : SV} {vs vx : Value} {R : SV → Prop} (hf : Fits E χ G ⟨env, st⟩ a w) (hs : RS χ w G s vs) (hx : RS χ w G x vx) (h : vcAppendQ P t t' s x st R) :
    ∃ r v w', R r ∧ (Builtin.append_ #[t, t'] ty #[vs, vx]).run P w = .ok v w' ∧ Rel2 E ⟨env, st⟩ a w' r v := by
  unfold vcAppendQ at h
  split at h
  · rename_i e hu
    split at h
    · rename_i i hi
      simp only [must_iff, Bool.and_eq_true, beq_iff_eq, decide_eq_true_eq] at h
      obtain ⟨⟨⟨⟨rfl, hpos⟩, hbpos⟩, hz⟩, h⟩ := h
      cases hz0 : i.zero with
      | none => simp [hz0] at hz
      | some z =>
        have hzs : z.cells.size = i.size := by simpa [hz0] using hz
        obtain ⟨sz', ys, A, c, us, ⟨hsz, h⟩, rfl, hle, hmx, hr, hA, hcell⟩ := elems_reads hx hf.2.1 h
        have hr : RF χ w i.size ys us := by
          rcases Bool.or_eq_true_iff.1 hsz with h | h
          · rw [← beq_iff_eq.1 h]; exact hr
          · have : ys = [] := by simpa using h
            subst this
            simpa [RF] using hr
        have hul : us.length = ys.length * i.size := hr.len
        -- a new row
        have fin : ∀ {v' : Value} {w' : World} {nl : Bool} {zs : List PV} {ws : List Value}, zs.length ≤ maxLen → RF χ w i.size zs ws → w'.ownsRow w.heap.size e i.size v' zs.length ws → w.grownBy w' none → (nl = true ↔ v' = .slice none 0 0) →
            Rel2 E ⟨env, st⟩ a w' (.pure (.list i.size nl zs)) v' := by
          intro v' w' nl zs ws hz63 hrz hown' hg hnl
          have hbl : ∀ b, b < w.heap.size → w'.heap[b]? = w.heap[b]? := fun b hb => hg.block b hb (by simp)
          have hk : Keep χ w (fun b => if b < w.heap.size then χ b else .imm) w' := fun b hlt hi => ⟨by simp only; rw [if_pos hlt]; exact hi, hbl b hlt⟩
          have hf2 : Fits E (fun b => if b < w.heap.size then χ b else .imm) G ⟨env, st⟩ a w' := hf.ext hg.os hg.tape hg.output hg.size (fun b hb => ⟨if_pos hb, hbl b hb⟩)
          refine hf2.two ?_
          obtain ⟨hl', hrest⟩ := hown'
          rcases hrest with ⟨rfl, h0⟩ | ⟨g, c, cur, rfl, hge, hg', hle', hm, hcs, htk⟩
          · have hzs0 : zs = [] := List.eq_nil_of_length_eq_zero h0
            subst hzs0
            have : ws = [] := by simpa [RF] using hrz
            subst this
            exact ⟨none, 0, [], rfl, Nat.le_refl _, by simp [maxLen], fun _ => rfl, ⟨fun _ => rfl, fun _ => hnl.2 rfl⟩, rfl, fun k u hu => by simp at hu⟩
          · refine ⟨some ⟨g, 0, none⟩, c, ws, rfl, hle', hm, fun h => (by cases h), ⟨fun h => (by have := hnl.1 h; simp at this), fun h => (by cases h)⟩, RF.mono hk _ _ _ hrz, fun k u hu => ⟨_, rfl, ?_, ?_⟩⟩
            · show (if g < w.heap.size then χ g else Color.imm) = .imm
              rw [if_neg (by omega)]
            · rw [add_pl, World.cell?, hg']
              simp only [Option.isSome_none, Bool.false_eq_true, if_false, Nat.zero_add]
              rw [← htk, List.getElem?_take] at hu
              split at hu
              · simpa using hu
              · cases hu
        split at h
        · -- onto nil
          rename_i sz0
          obtain ⟨A0, c0, us0, rfl, g2, g3, g4, g5, g6, g7⟩ := hs
          have hA0 : A0 = none := g5.1 rfl
          subst hA0
          have hc0 := g4 rfl
          subst hc0
          have hlen63 : ys.length ≤ maxLen := by omega
          by_cases hys : ys = []
          · subst hys
            have hus : us = [] := by simpa [RF] using hr
            subst hus
            refine ⟨_, .slice none 0 0, w, h.2, ?_, hf.two ⟨none, 0, [], rfl, Nat.le_refl _, by simp [maxLen], fun _ => rfl, by simp, rfl, fun k u hu => by simp at hu⟩⟩
            cases A with
            | none => simp [Builtin.append_, run_underlying hu, sizeOf, typeInfo, hi, Builtin.lenOf, Builtin.firstCells]
            | some ad =>
              have hfc := run_firstCells_some (P := P) w i.size 0 ad 0 c [] (by simp) (by simp)
              simp [Builtin.append_, run_underlying hu, sizeOf, typeInfo, hi, Builtin.lenOf, hfc]
          · have hm : ys.length ≠ 0 := fun e => hys (List.eq_nil_of_length_eq_zero e)
            cases A with
            | none => have := hA rfl; omega
            | some ad =>
              obtain ⟨v', w', hrun, hown', hg, hnil, hat⟩ := run_append_own_at (P := P) w w.heap.size t' ty e i z i.size i.bytes hu hi hz0 rfl rfl hzs hpos (.slice none 0 0) 0 [] ⟨by simp, .inl ⟨rfl, rfl⟩⟩ ad ys.length c us hul
                (fun j u hu => by obtain ⟨ad', e', hc⟩ := hcell j u hu; injection e' with e'; subst e'; exact hc) hr.one (by omega) (by simpa using h.1) (Nat.le_refl _)
              simp only [Nat.zero_add, List.nil_append] at hown'
              refine ⟨_, v', w', h.2, by simpa using hrun, fin hlen63 hr hown' hg ?_⟩
              rw [hnil]
              simp [List.isEmpty_iff]
        · -- onto a full row
          rename_i sz0 xs hh0
          obtain ⟨rfl, hb, hR⟩ := h
          obtain ⟨⟨A0, c0, us0, rfl, g2, g3, g4, g5, g6, g7⟩, A0', e0⟩ := hs
          simp only [Value.slice.injEq] at e0
          obtain ⟨rfl, -, rfl⟩ := e0
          cases A0 with
          | none => exact absurd (g5.2 rfl) (by simp)
          | some a0 =>
            by_cases hys : ys = []
            · subst hys
              have hus : us = [] := by simpa [RF] using hr
              subst hus
              rw [List.append_nil] at hR
              exact ⟨_, .slice (some a0) xs.length xs.length, w, hR, append_none hu hi, hf.two ⟨some a0, xs.length, us0, rfl, g2, g3, g4, g5, g6, g7⟩⟩
            · have hm : ys.length ≠ 0 := fun e => hys (List.eq_nil_of_length_eq_zero e)
              cases A with
              | none => have := hA rfl; omega
              | some ad =>
                have hlen63 : xs.length + ys.length ≤ maxLen := by
                  have := Nat.le_mul_of_pos_right (xs.length + ys.length) hbpos
                  simp only [maxLen]; omega
                obtain ⟨v', w', hrun, hown', hg⟩ := run_append_arg_grows (P := P) w t' ty e i z i.size i.bytes hu hi hz0 rfl rfl hzs hpos a0 xs.length xs.length us0 g6.len
                  (fun j u hu => by obtain ⟨ad', e', _, hc⟩ := g7 j u hu; injection e' with e'; subst e'; exact hc) ad ys.length c us hul
                  (fun j u hu => by obtain ⟨ad', e', hc⟩ := hcell j u hu; injection e' with e'; subst e'; exact hc) (by omega) hlen63 hb
                refine ⟨_, v', w', hR, hrun, fin (by rw [List.length_append]; exact hlen63) (g6.append hr) (by rw [List.length_append]; exact hown') hg ?_⟩
                refine ⟨fun h => (by cases h), fun h => ?_⟩
                subst h
                have := ownsRow_nil hown'
                omega
        · exact h.elim
    · exact h.elim
  · exact h.elim

end
end Go.Sy
