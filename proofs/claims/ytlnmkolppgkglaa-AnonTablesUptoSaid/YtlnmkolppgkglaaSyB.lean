/- What stays true when the world goes on. -/
import Derived.Test.YtlnmkolppgkglaaSyA
set_option linter.all false
set_option maxHeartbeats 4000000
namespace Go.Sy
open Go.RowKit

/-- What cannot be turned is there still. -/
def Keep (χ : Nat → Color) (w : World) (χ' : Nat → Color) (w' : World) : Prop :=
  ∀ b, b < w.heap.size → χ b = .imm → χ' b = .imm ∧ w'.heap[b]? = w.heap[b]?

theorem Keep.refl (χ : Nat → Color) (w : World) : Keep χ w χ w := fun _ _ h => ⟨h, rfl⟩

theorem Cells.mono {χ χ' : Nat → Color} {w w' : World} (hk : Keep χ w χ' w') {A : Option Addr} {us : List Value} (h : Cells χ w A us) : Cells χ' w' A us := by
  intro k u hu
  obtain ⟨ad, rfl, hi, hc⟩ := h k u hu
  have hlt := World.block_lt_of_cell? w _ hc
  have hb : (ad.add k).block = ad.block := by unfold Addr.add; split <;> rfl
  rw [hb] at hlt
  obtain ⟨h1, h2⟩ := hk _ hlt hi
  exact ⟨ad, rfl, h1, by rw [World.cell?_of_block (w := w) (by rw [hb]; exact h2)]; exact hc⟩

section
variable {χ χ' : Nat → Color} {w w' : World} (hk : Keep χ w χ' w')
include hk
mutual
theorem RP.mono : ∀ (p : PV) (u : Value), RP χ w p u → RP χ' w' p u
  | .val v, u, h => h
  | .agg cs, u, ⟨us, hu, h⟩ => ⟨us, hu, RL.mono cs us h⟩
  | .list sz nl xs, u, ⟨A, c, us, h1, h2, h3, h4, h5, h6, h7⟩ => ⟨A, c, us, h1, h2, h3, h4, h5, RF.mono sz xs us h6, h7.mono hk⟩
theorem RL.mono : ∀ (cs : List PV) (us : List Value), RL χ w cs us → RL χ' w' cs us
  | [], us, h => h
  | c :: cs, us, ⟨u, r, h1, h2, h3, h4⟩ => ⟨u, r, h1, h2, RP.mono c u h3, RL.mono cs r h4⟩
theorem RF.mono : ∀ (sz : Nat) (xs : List PV) (us : List Value), RF χ w sz xs us → RF χ' w' sz xs us
  | sz, [], us, h => h
  | sz, x :: xs, us, ⟨u, r, h1, h2, h3, h4, h5⟩ => ⟨u, r, h1, h2, h3, RP.mono x u h4, RF.mono sz xs r h5⟩
end
end

theorem RM.mono {χ χ' : Nat → Color} {w w' : World} (hk : Keep χ w χ' w') : ∀ (es : List (PV × PV)) (l : List MapEntry), RM χ w es l → RM χ' w' es l
  | [], l, h => h
  | (k, v) :: r, l, ⟨e, t, h1, h2, h3, h4⟩ => ⟨e, t, h1, RP.mono hk k _ h2, RP.mono hk v _ h3, RM.mono hk r t h4⟩

/-- Heads go on. -/
def GGo (G G' : Gh) : Prop := ∀ o,
  (∀ g, G o = some (.fix g) → G' o = some (.fix g)) ∧
  (∀ n h, G o = some (.ver n h) → ∃ m h', G' o = some (.ver m h') ∧ n ≤ m ∧ (n = m → h' = h))

theorem GGo.refl (G : Gh) : GGo G G := fun _ => ⟨fun _ h => h, fun n h hh => ⟨n, h, hh, Nat.le_refl _, fun _ => rfl⟩⟩

section
variable {χ χ' : Nat → Color} {w w' : World} {G G' : Gh} (hk : Keep χ w χ' w') (hg : GGo G G')
include hk hg
mutual
theorem RS.mono : ∀ (s : SV) (u : Value), RS χ w G s u → RS χ' w' G' s u
  | .pure p, u, h => RP.mono hk p u h
  | .ptr o k, u, ⟨g, h, e⟩ => ⟨g, (hg o).1 g h, e⟩
  | .vref o n, u, ⟨h0, m, h, h1, h2, h3⟩ => by
    obtain ⟨m', h', e, hle, heq⟩ := (hg o).2 m h h1
    exact ⟨h0, m', h', e, by omega, fun hn => by rw [h3 (by omega), heq (by omega)]⟩
  | .eptr o n sz i off, u, ⟨ad, h0, m, h, h1, h2, h3⟩ => by
    obtain ⟨m', h', e, hle, heq⟩ := (hg o).2 m h h1
    exact ⟨ad, h0, m', h', e, by omega, fun hn => by rw [heq (by omega)]; exact h3 (by omega)⟩
  | .ipt cs, u, ⟨ad, us, h1, h2, h3⟩ => ⟨ad, us, h1, RL.mono hk cs us h2, h3.mono hk⟩
  | .mref o, u, ⟨g, h, e⟩ => ⟨g, (hg o).1 g h, e⟩
  | .agg cs, u, ⟨us, h1, h2⟩ => ⟨us, h1, RSL.mono cs us h2⟩
  | .tup cs, u, ⟨us, h1, h2⟩ => ⟨us, h1, RTL.mono cs us h2⟩
  | .clo f cs, u, ⟨us, h1, h2⟩ => ⟨us, h1, RTL.mono cs us h2⟩
  | .dead, u, h => trivial
  | .lit sz xs, u, ⟨h, e⟩ => ⟨RP.mono hk _ u h, e⟩
  | .sref o k n, u, ⟨g, c, h, e⟩ => ⟨g, c, (hg o).1 g h, e⟩
  | .yld o, u, ⟨l, h, e⟩ => ⟨l, (hg o).1 l h, e⟩
  | .bnd f cs, u, ⟨us, h1, h2⟩ => ⟨us, h1, RTL.mono cs us h2⟩
theorem RSL.mono : ∀ (cs : List SV) (us : List Value), RSL χ w G cs us → RSL χ' w' G' cs us
  | [], us, h => h
  | c :: cs, us, ⟨u, r, h1, h2, h3, h4⟩ => ⟨u, r, h1, h2, RS.mono c u h3, RSL.mono cs r h4⟩
theorem RTL.mono : ∀ (cs : List SV) (us : List Value), RTL χ w G cs us → RTL χ' w' G' cs us
  | [], us, h => h
  | c :: cs, us, ⟨u, r, h1, h2, h3⟩ => ⟨u, r, h1, RS.mono c u h2, RTL.mono cs r h3⟩
end
end

theorem RD.mono {E : Ent} {χ χ' : Nat → Color} {w w' : World} {G G' : Gh} {ds : List Deferred} (hk : Keep χ w χ' w') (hg : GGo G G')
    (hm : ∀ b, b < w.heap.size → χ b = .mrk → χ' b = .mrk ∧ w'.heap[b]? = w.heap[b]?) (h : RD E χ w G ds) : RD E χ' w' G' ds := by
  obtain ⟨h1, h2, pre, h3, h4, h5⟩ := h
  refine ⟨RTL.mono hk hg _ _ h1, h2, pre, h3, fun d hd => ?_, h5⟩
  obtain ⟨r, e1, e2, e3, e4⟩ := h4 d hd
  obtain ⟨e5, e6⟩ := hm r (Array.getElem?_eq_some_iff.1 e4).1 e2
  exact ⟨r, e1, e5, e3, by rw [e6]; exact e4⟩

/-! ### lists -/
section
variable {χ : Nat → Color} {w : World} {G : Gh}

theorem RTL.length : ∀ {cs : List SV} {us : List Value}, RTL χ w G cs us → us.length = cs.length
  | [], us, h => by simp [RTL] at h; simp [h]
  | c :: cs, us, ⟨u, r, h1, h2, h3⟩ => by rw [h1]; simp [RTL.length h3]

theorem RSL.length : ∀ {cs : List SV} {us : List Value}, RSL χ w G cs us → us.length = cs.length
  | [], us, h => by simp [RSL] at h; simp [h]
  | c :: cs, us, ⟨u, r, h1, h2, h3, h4⟩ => by rw [h1]; simp [RSL.length h4]

theorem RL.length : ∀ {cs : List PV} {us : List Value}, RL χ w cs us → us.length = cs.length
  | [], us, h => by simp [RL] at h; simp [h]
  | c :: cs, us, ⟨u, r, h1, h2, h3, h4⟩ => by rw [h1]; simp [RL.length h4]

theorem RTL.get : ∀ {cs : List SV} {us : List Value}, RTL χ w G cs us → ∀ d, RS χ w G (cs.getD d .dead) (us.getD d undef)
  | [], us, h, d => by simp [RS]
  | c :: cs, us, ⟨u, r, h1, h2, h3⟩, d => by
    rw [h1]
    cases d with
    | zero => simpa using h2
    | succ d => simpa using RTL.get h3 d

theorem RTL.set : ∀ {cs : List SV} {us : List Value}, RTL χ w G cs us → ∀ d {s : SV} {v : Value}, RS χ w G s v → RTL χ w G (cs.set d s) (us.set d v)
  | [], us, h, d, s, v, hs => by simp [RTL] at h; subst h; simp [RTL]
  | c :: cs, us, ⟨u, r, h1, h2, h3⟩, d, s, v, hs => by
    rw [h1]
    cases d with
    | zero => exact ⟨v, r, rfl, hs, h3⟩
    | succ d => exact ⟨u, r.set d v, rfl, h2, RTL.set h3 d hs⟩

theorem RTL.append : ∀ {cs : List SV} {us : List Value}, RTL χ w G cs us → ∀ {cs' : List SV} {us' : List Value}, RTL χ w G cs' us' → RTL χ w G (cs ++ cs') (us ++ us')
  | [], us, h, cs', us', h' => by simp [RTL] at h; subst h; simpa using h'
  | c :: cs, us, ⟨u, r, h1, h2, h3⟩, cs', us', h' => ⟨u, r ++ us', by rw [h1]; rfl, h2, RTL.append h3 h'⟩

theorem RTL.replicate_dead (n : Nat) (v : Value) : RTL χ w G (List.replicate n .dead) (List.replicate n v) := by
  induction n with
  | zero => simp [RTL]
  | succ n ih => exact ⟨v, _, rfl, trivial, ih⟩
end

end Go.Sy
