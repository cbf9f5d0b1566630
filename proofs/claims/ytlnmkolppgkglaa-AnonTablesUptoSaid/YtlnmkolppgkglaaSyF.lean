/- The walk's operations are what the model does: reading. -/
import Derived.Test.YtlnmkolppgkglaaSyE
set_option linter.all false
set_option maxHeartbeats 4000000
namespace Go.Sy
open Go.RowKit

section
variable {χ : Nat → Color} {w : World} {G : Gh}

theorem RL_vals : ∀ (us : List Value), (us.all fun u => u.oneCell') = true → RL χ w (us.map .val) us
  | [], _ => rfl
  | u :: us, h => by
    simp only [List.all_cons, Bool.and_eq_true] at h
    exact ⟨u, us, rfl, h.1, rfl, RL_vals us h.2⟩

theorem RL_cells {p : PV} {u : Value} (hp : p.one = true) (h : RP χ w p u) : RL χ w p.cells u.cells.toList := by
  cases p with
  | val v =>
    have h : u = v := h
    subst h
    cases u <;> first
      | exact RL_vals _ (by simpa [PV.one, Value.cells] using hp)
      | exact ⟨_, [], rfl, by simpa [PV.one, Value.cells] using hp, rfl, rfl⟩
  | agg cs =>
    obtain ⟨us, rfl, h⟩ := h
    simpa [PV.cells, Value.cells] using h
  | list sz nl xs =>
    have h' := h
    obtain ⟨A, c, us, rfl, _⟩ := h
    exact ⟨_, [], rfl, rfl, h', rfl⟩

theorem RSL_pures : ∀ {ps : List PV} {us : List Value}, RL χ w ps us → RSL χ w G (ps.map .pure) us
  | [], us, h => h
  | p :: ps, us, ⟨u, r, h1, h2, h3, h4⟩ => ⟨u, r, h1, h2, h3, RSL_pures h4⟩

theorem RSL_cells {s : SV} {u : Value} (hp : s.one = true) (h : RS χ w G s u) : RSL χ w G s.cells u.cells.toList := by
  cases s with
  | pure p => exact RSL_pures (RL_cells hp h)
  | ptr o k => have h' := h; obtain ⟨g, _, rfl⟩ := h; exact ⟨_, [], rfl, rfl, h', rfl⟩
  | vref o n => exact ⟨_, [], by have h0 := h.1; cases u <;> simp_all [Value.cells, Value.oneCell'], h.1, h, rfl⟩
  | eptr o n sz i off => have h' := h; obtain ⟨ad, rfl, _⟩ := h; exact ⟨_, [], rfl, rfl, h', rfl⟩
  | ipt cs => have h' := h; obtain ⟨ad, us, rfl, _⟩ := h; exact ⟨_, [], rfl, rfl, h', rfl⟩
  | mref o => have h' := h; obtain ⟨g, _, rfl⟩ := h; exact ⟨_, [], rfl, rfl, h', rfl⟩
  | agg cs => obtain ⟨us, rfl, h⟩ := h; simpa [SV.cells, Value.cells] using h
  | tup cs => simp [SV.one] at hp
  | clo f cs => have h' := h; obtain ⟨us, rfl, _⟩ := h; exact ⟨_, [], rfl, rfl, h', rfl⟩
  | dead => simp [SV.one] at hp
  | lit sz xs => have h' := h; obtain ⟨_, A, rfl⟩ := h; exact ⟨_, [], rfl, rfl, h', rfl⟩
  | sref o k n => have h' := h; obtain ⟨g, c, _, rfl, _⟩ := h; exact ⟨_, [], rfl, rfl, h', rfl⟩
  | yld o => have h' := h; obtain ⟨g, _, rfl⟩ := h; exact ⟨_, [], rfl, rfl, h', rfl⟩
  | bnd f cs => have h' := h; obtain ⟨us, rfl, _⟩ := h; exact ⟨_, [], rfl, rfl, h', rfl⟩

theorem RL.get : ∀ {cs : List PV} {us : List Value}, RL χ w cs us → ∀ {k : Nat} {p}, cs[k]? = some p → ∃ u, us[k]? = some u ∧ RP χ w p u ∧ u.oneCell' = true
  | [], us, h, k, p, hp => by simp at hp
  | c :: cs, us, ⟨u, r, h1, h2, h3, h4⟩, k, p, hp => by
    subst h1
    cases k with
    | zero => simp at hp; subst hp; exact ⟨u, rfl, h3, h2⟩
    | succ k => simpa using RL.get h4 (by simpa using hp)

theorem RL.drop : ∀ {cs : List PV} {us : List Value}, RL χ w cs us → ∀ k, RL χ w (cs.drop k) (us.drop k)
  | cs, us, h, 0 => by simpa using h
  | [], us, h, k + 1 => by simp [RL] at h; subst h; simp [RL]
  | c :: cs, us, ⟨u, r, h1, h2, h3, h4⟩, k + 1 => by subst h1; simpa using RL.drop h4 k

theorem RL.take : ∀ {cs : List PV} {us : List Value}, RL χ w cs us → ∀ k, RL χ w (cs.take k) (us.take k)
  | cs, us, h, 0 => by simp [RL]
  | [], us, h, k + 1 => by simp [RL] at h; subst h; simp [RL]
  | c :: cs, us, ⟨u, r, h1, h2, h3, h4⟩, k + 1 => by subst h1; exact ⟨u, r.take k, rfl, h2, h3, RL.take h4 k⟩

theorem RSL.get : ∀ {cs : List SV} {us : List Value}, RSL χ w G cs us → ∀ {k : Nat} {p}, cs[k]? = some p → ∃ u, us[k]? = some u ∧ RS χ w G p u ∧ u.oneCell' = true
  | [], us, h, k, p, hp => by simp at hp
  | c :: cs, us, ⟨u, r, h1, h2, h3, h4⟩, k, p, hp => by
    subst h1
    cases k with
    | zero => simp at hp; subst hp; exact ⟨u, rfl, h3, h2⟩
    | succ k => simpa using RSL.get h4 (by simpa using hp)

theorem RSL.drop : ∀ {cs : List SV} {us : List Value}, RSL χ w G cs us → ∀ k, RSL χ w G (cs.drop k) (us.drop k)
  | cs, us, h, 0 => by simpa using h
  | [], us, h, k + 1 => by simp [RSL] at h; subst h; simp [RSL]
  | c :: cs, us, ⟨u, r, h1, h2, h3, h4⟩, k + 1 => by subst h1; simpa using RSL.drop h4 k

theorem RSL.take : ∀ {cs : List SV} {us : List Value}, RSL χ w G cs us → ∀ k, RSL χ w G (cs.take k) (us.take k)
  | cs, us, h, 0 => by simp [RSL]
  | [], us, h, k + 1 => by simp [RSL] at h; subst h; simp [RSL]
  | c :: cs, us, ⟨u, r, h1, h2, h3, h4⟩, k + 1 => by subst h1; exact ⟨u, r.take k, rfl, h2, h3, RSL.take h4 k⟩

theorem RSL.setAt : ∀ {vs : List SV} {ws : List Value}, RSL χ w G vs ws → ∀ {cs : List SV} {us : List Value} (k : Nat), RSL χ w G cs us → RSL χ w G (setAt cs k vs) (setAt us k ws)
  | [], ws, h, cs, us, k, hc => by simp [RSL] at h; subst h; simpa [Sy.setAt] using hc
  | c :: cs', ws, ⟨u, r, h1, h2, h3, h4⟩, cs, us, k, hc => by
    subst h1
    refine RSL.setAt h4 (k + 1) ?_
    have key : ∀ {cs : List SV} {us : List Value} (k : Nat), RSL χ w G cs us → RSL χ w G (cs.set k c) (us.set k u) := by
      intro cs
      induction cs with
      | nil => intro us k h; simp [RSL] at h; subst h; simp [RSL]
      | cons d cs ih =>
        rintro us k ⟨x, r, h1, h2', h3', h4'⟩
        subst h1
        cases k with
        | zero => exact ⟨u, r, rfl, h2, h3, h4'⟩
        | succ k => exact ⟨x, _, rfl, h2', h3', ih k h4'⟩
    exact key k hc

theorem RL.setAt : ∀ {vs : List PV} {ws : List Value}, RL χ w vs ws → ∀ {cs : List PV} {us : List Value} (k : Nat), RL χ w cs us → RL χ w (Sy.setAt cs k vs) (Sy.setAt us k ws)
  | [], ws, h, cs, us, k, hc => by simp [RL] at h; subst h; simpa [Sy.setAt] using hc
  | c :: cs', ws, ⟨u, r, h1, h2, h3, h4⟩, cs, us, k, hc => by
    subst h1
    refine RL.setAt h4 (k + 1) ?_
    have key : ∀ {cs : List PV} {us : List Value} (k : Nat), RL χ w cs us → RL χ w (cs.set k c) (us.set k u) := by
      intro cs
      induction cs with
      | nil => intro us k h; simp [RL] at h; subst h; simp [RL]
      | cons d cs ih =>
        rintro us k ⟨x, r, h1, h2', h3', h4'⟩
        subst h1
        cases k with
        | zero => exact ⟨u, r, rfl, h2, h3, h4'⟩
        | succ k => exact ⟨x, _, rfl, h2', h3', ih k h4'⟩
    exact key k hc

theorem pures_spec : ∀ {l : List SV} {ps : List PV} {us : List Value}, pures l = some ps → RSL χ w G l us → RL χ w ps us
  | [], ps, us, h, hr => by simp [pures] at h; subst h; exact hr
  | s :: l, ps, us, h, ⟨u, r, h1, h2, h3, h4⟩ => by
    cases s <;> simp only [pures, Option.map_eq_some_iff, reduceCtorEq] at h
    obtain ⟨qs, hq, rfl⟩ := h
    exact ⟨u, r, h1, h2, h3, pures_spec hq h4⟩

theorem RS_mkAgg {l : List SV} {us : List Value} (h : RSL χ w G l us) : RS χ w G (mkAgg l) (.agg us.toArray) := by
  unfold mkAgg
  split
  · rename_i ps hp
    exact ⟨us, rfl, pures_spec hp h⟩
  · exact ⟨us, rfl, h⟩

/-! ### elements of a slice -/
theorem RF.get {sz : Nat} : ∀ {xs : List PV} {us : List Value}, RF χ w sz xs us → ∀ {i : Nat} {p}, xs[i]? = some p →
    ∃ u, RP χ w p u ∧ u.cells.size = sz ∧ (∀ y ∈ u.cells.toList, y.oneCell' = true) ∧ us.drop (i * sz) = u.cells.toList ++ us.drop (i * sz + sz)
  | [], us, h, i, p, hp => by simp at hp
  | x :: xs, us, ⟨u, r, h1, h2, h3, h4, h5⟩, i, p, hp => by
    subst h1
    cases i with
    | zero =>
      simp at hp
      subst hp
      refine ⟨u, h4, h2, h3, ?_⟩
      have hl : u.cells.toList.length = sz := by simpa using h2
      simp [List.drop_append, hl]
    | succ i =>
      obtain ⟨v, hv1, hv2, hv3, hv4⟩ := RF.get h5 (i := i) (by simpa using hp)
      refine ⟨v, hv1, hv2, hv3, ?_⟩
      have hl : u.cells.toList.length = sz := by simpa using h2
      have e1 : (i + 1) * sz = sz + i * sz := by rw [Nat.add_mul, Nat.one_mul, Nat.add_comm]
      rw [e1, List.drop_append, List.drop_append, hl]
      have e2 : u.cells.toList.drop (sz + i * sz) = [] := List.drop_eq_nil_of_le (by omega)
      have e3 : u.cells.toList.drop (sz + i * sz + sz) = [] := List.drop_eq_nil_of_le (by omega)
      rw [e2, e3, List.nil_append, List.nil_append, show sz + i * sz - sz = i * sz from by omega, show sz + i * sz + sz - sz = i * sz + sz from by omega]
      exact hv4

theorem RF.len {sz : Nat} : ∀ {xs : List PV} {us : List Value}, RF χ w sz xs us → us.length = xs.length * sz
  | [], us, h => by simp [RF] at h; simp [h]
  | x :: xs, us, ⟨u, r, h1, h2, h3, h4, h5⟩ => by
    subst h1
    rw [List.length_append, RF.len h5, List.length_cons, Nat.add_mul, Nat.one_mul]
    have hl : u.cells.toList.length = sz := by simpa using h2
    omega

theorem RF.append {sz : Nat} : ∀ {xs : List PV} {us : List Value}, RF χ w sz xs us → ∀ {ys : List PV} {vs : List Value}, RF χ w sz ys vs → RF χ w sz (xs ++ ys) (us ++ vs)
  | [], us, h, ys, vs, h' => by simp [RF] at h; subst h; simpa using h'
  | x :: xs, us, ⟨u, r, h1, h2, h3, h4, h5⟩, ys, vs, h' => ⟨u, r ++ vs, by rw [h1, List.append_assoc], h2, h3, h4, RF.append h5 h'⟩

theorem RF.one {sz : Nat} : ∀ {xs : List PV} {us : List Value}, RF χ w sz xs us → ∀ y ∈ us, y.oneCell' = true
  | [], us, h, y, hy => by simp [RF] at h; subst h; simp at hy
  | x :: xs, us, ⟨u, r, h1, h2, h3, h4, h5⟩, y, hy => by
    subst h1
    rcases List.mem_append.1 hy with h | h
    · exact h3 y h
    · exact RF.one h5 y h

theorem RF.drop {sz : Nat} : ∀ {xs : List PV} {us : List Value}, RF χ w sz xs us → ∀ i, RF χ w sz (xs.drop i) (us.drop (i * sz))
  | xs, us, h, 0 => by simpa using h
  | [], us, h, i + 1 => by simp [RF] at h; subst h; simp [RF]
  | x :: xs, us, ⟨u, r, h1, h2, h3, h4, h5⟩, i + 1 => by
    subst h1
    have hl : u.cells.toList.length = sz := by simpa using h2
    have e2 : u.cells.toList.drop (sz + i * sz) = [] := List.drop_eq_nil_of_le (by omega)
    rw [show (i + 1) * sz = sz + i * sz by rw [Nat.add_mul, Nat.one_mul, Nat.add_comm], List.drop_append, hl, e2, List.nil_append, show sz + i * sz - sz = i * sz from by omega]
    simpa using RF.drop h5 i

theorem RF.take {sz : Nat} : ∀ {xs : List PV} {us : List Value}, RF χ w sz xs us → ∀ i, RF χ w sz (xs.take i) (us.take (i * sz))
  | xs, us, h, 0 => by simp [RF]
  | [], us, h, i + 1 => by simp [RF] at h; subst h; simp [RF]
  | x :: xs, us, ⟨u, r, h1, h2, h3, h4, h5⟩, i + 1 => by
    subst h1
    have hl : u.cells.toList.length = sz := by simpa using h2
    refine ⟨u, r.take (i * sz), ?_, h2, h3, h4, RF.take h5 i⟩
    rw [show (i + 1) * sz = sz + i * sz by rw [Nat.add_mul, Nat.one_mul, Nat.add_comm], List.take_append, hl, List.take_of_length_le (by omega), show sz + i * sz - sz = i * sz from by omega]

theorem RF.set {sz : Nat} : ∀ {xs : List PV} {us : List Value}, RF χ w sz xs us → ∀ (i : Nat) {p : PV} {v : Value}, RP χ w p v → v.cells.size = sz → (∀ y ∈ v.cells.toList, y.oneCell' = true) → i < xs.length →
    RF χ w sz (xs.set i p) (us.take (i * sz) ++ v.cells.toList ++ us.drop (i * sz + sz))
  | [], us, h, i, p, v, hp, hs, ho, hi => by simp at hi
  | x :: xs, us, ⟨u, r, h1, h2, h3, h4, h5⟩, i, p, v, hp, hs, ho, hi => by
    subst h1
    have hl : u.cells.toList.length = sz := by simpa using h2
    cases i with
    | zero =>
      refine ⟨v, r, ?_, hs, ho, hp, h5⟩
      simp [List.drop_append, hl]
    | succ i =>
      refine ⟨u, r.take (i * sz) ++ v.cells.toList ++ r.drop (i * sz + sz), ?_, h2, h3, h4, RF.set h5 i hp hs ho (by simpa using hi)⟩
      rw [show (i + 1) * sz = sz + i * sz by rw [Nat.add_mul, Nat.one_mul, Nat.add_comm], List.take_append, hl, List.take_of_length_le (by omega), show sz + i * sz - sz = i * sz from by omega, List.drop_append, hl,
        List.drop_eq_nil_of_le (by omega), List.nil_append, show sz + i * sz + sz - sz = i * sz + sz from by omega]
      simp [List.append_assoc]
end
end Go.Sy
