/- law27: equals that stand beside each other are taken out (slices.CompactFunc over slices of bytes). -/
import Derived.Test.Ytlnmkolppgkglaa27X
set_option linter.all false
set_option maxHeartbeats 4000000
set_option maxRecDepth 100000
namespace Go.Proofs.Ytlnmkolppgkglaa
open Go Go.RowKit Go.Sy Go.Proofs Go.Sort

def eqB (x y : BV) : Bool := (strOfNums x.2).toList == (strOfNums y.2).toList
def kptB : BV → List BV → List BV
  | _, [] => []
  | p, x :: r => if eqB x p then kptB x r else x :: kptB x r
def compB : List BV → List BV
  | [] => []
  | x :: r => x :: kptB x r
abbrev dfB : BV := (false, [])

theorem kptB_snoc (y : BV) : ∀ (l : List BV) (p : BV), kptB p (l ++ [y]) = kptB p l ++ (if eqB y ((p :: l).getLast (by simp)) then [] else [y])
  | [], p => by
    simp only [List.nil_append, kptB, List.getLast_singleton]
    by_cases hh : eqB y p = true <;> simp [hh]
  | x :: l, p => by
    have ih := kptB_snoc y l x
    rw [List.cons_append]
    unfold kptB
    rw [ih]
    have e : (p :: x :: l).getLast (by simp) = (x :: l).getLast (by simp) := List.getLast_cons _
    rw [e]
    split <;> simp

theorem compB_snoc {l : List BV} {p y : BV} (h : l.getLast? = some p) : compB (l ++ [y]) = compB l ++ (if eqB y p then [] else [y]) := by
  cases l with
  | nil => simp at h
  | cons x l =>
    have hp : (x :: l).getLast (by simp) = p := by rw [List.getLast?_eq_getLast (by simp)] at h; exact Option.some.inj h
    show x :: kptB x (l ++ [y]) = x :: kptB x l ++ _
    rw [kptB_snoc, hp, List.cons_append]

/-- One step further. -/
theorem comp_step {d : List BV} {k : Nat} {x p : BV} (h0 : 0 < k) (hx : d[k]? = some x) (hp : d[k - 1]? = some p) : compB (d.take (k + 1)) = compB (d.take k) ++ (if eqB x p then [] else [x]) := by
  have e1 : d.take (k + 1) = d.take k ++ [x] := by rw [List.take_add_one, hx]; rfl
  rw [e1]
  refine compB_snoc ?_
  have hk : k ≤ d.length := by have := (List.getElem?_eq_some_iff.1 hx).1; omega
  rw [List.getLast?_eq_getElem?, List.length_take, Nat.min_eq_left hk, List.getElem?_take]
  rw [if_pos (by omega)]
  exact hp

theorem getD_of {d : List BV} {i : Nat} {x : BV} (h : d[i]? = some x) : d.getD i dfB = x := by rw [List.getD_eq_getElem?_getD, h]; rfl

theorem kptB_len : ∀ (l : List BV) (p : BV), (kptB p l).length ≤ l.length
  | [], p => Nat.le_refl _
  | x :: l, p => by
    have := kptB_len l x
    unfold kptB
    split
    · simp; omega
    · simp; exact this
theorem compB_len (l : List BV) : (compB l).length ≤ l.length := by
  cases l with
  | nil => exact Nat.le_refl _
  | cons x l => have := kptB_len l x; simp [compB]; exact this

theorem drop_get {e d : List BV} {m : Nat} (h : e.drop m = d.drop m) {i : Nat} (hi : m ≤ i) : e[i]? = d[i]? := by
  have := congrArg (fun l : List BV => l[i - m]?) h
  simp only [List.getElem?_drop] at this
  rwa [show m + (i - m) = i by omega] at this

theorem compact_row (T : TypeId) (d : List BV) (hd : d.length < 2 ^ 40) (h0 : 0 < d.length) :
    CallOk Try.prog 31 [.sref 0 0 d.length, fnv 32] [.row T d.length (d.map encB)] fun r st' => ∃ junk : List PV, r = .sref 0 0 (compB d).length ∧ st' = [.row T d.length ((compB d).map encB ++ junk)] := by
  refine callOk_of false 1 Try.func31 rfl rfl (by show 1 ≤ 1; decide) ?_
  conv => whnf
  repeat (first | (refine rest_vc ?_; conv => whnf) | (refine ⟨by decide, ?_⟩; conv => whnf))
  split <;> rename_i h <;> (conv => whnf) <;> repeat (first | (refine rest_vc ?_; conv => whnf) | (refine ⟨by decide, ?_⟩; conv => whnf))
  · have h := of_decide_eq_true h
    have e : compB d = d := by
      match d, h0, h with
      | [x], _, _ => rfl
      | x :: y :: r, _, h => simp at h; omega
    exact ⟨[], congrArg (fun n => SV.sref 0 0 n) (by rw [e]), by rw [e, List.append_nil]; rfl⟩
  have h := of_decide_eq_false h
  refine awp_loop (n := 66) (α := Nat) (fun k => 1 ≤ k ∧ k ≤ d.length ∧ compB (d.take k) = d.take k) (fun k => [(0, .sref 0 0 d.length), (1, fnv 32), (5, vI .i64 k)]) (fun _ => [.row T d.length (d.map encB)]) (fun k => d.length - k) 1 (fun _ => 0)
    ⟨Nat.le_refl _, by omega, by cases d with
      | nil => rfl
      | cons x r => rfl⟩ rfl ⟨rfl, rfl, rfl, trivial⟩ rfl (fun _ _ => rfl) (fun _ => ⟨Nat.le_refl _, rfl, rfl⟩) ?_
  rintro k ⟨k1, k2, k3⟩
  conv => whnf
  repeat (first | (refine rest_vc ?_; conv => whnf) | (refine ⟨by decide, ?_⟩; conv => whnf))
  split <;> rename_i g <;> (conv => whnf) <;> repeat (first | (refine rest_vc ?_; conv => whnf) | (refine ⟨by decide, ?_⟩; conv => whnf))
  · have g := of_decide_eq_true g
    obtain ⟨x, hx⟩ : ∃ x, d[k]? = some x := ⟨_, List.getElem?_eq_getElem (by omega)⟩
    obtain ⟨p, hp⟩ : ∃ p, d[k - 1]? = some p := ⟨_, List.getElem?_eq_getElem (by omega)⟩
    have ek := pred64 (j := k) (by omega) (by omega)
    have hst := comp_step k1 hx hp
    refine hand_draw [] (fun _ r => r = vB (eqB x p)) rfl (by kernel_rfl) rfl ?_
    conv => whnf
    repeat (first | (refine rest_vc ?_; conv => whnf) | (refine ⟨by decide, ?_⟩; conv => whnf))
    refine ⟨by omega, ?_⟩
    conv => whnf
    repeat (first | (refine rest_vc ?_; conv => whnf) | (refine ⟨by decide, ?_⟩; conv => whnf))
    refine ⟨by omega, fun q hq => ?_⟩
    rw [Nat.zero_add, Int.toNat_natCast] at hq
    obtain ⟨x', hx', rfl⟩ := map_get hq
    rw [hx] at hx'
    cases hx'
    conv => whnf
    repeat (first | (refine rest_vc ?_; conv => whnf) | (refine ⟨by decide, ?_⟩; conv => whnf))
    refine ⟨by omega, ?_⟩
    conv => whnf
    repeat (first | (refine rest_vc ?_; conv => whnf) | (refine ⟨by decide, ?_⟩; conv => whnf))
    refine ⟨by omega, fun q hq => ?_⟩
    rw [ek, Nat.zero_add, Int.toNat_natCast] at hq
    obtain ⟨x', hx', rfl⟩ := map_get hq
    rw [hp] at hx'
    cases hx'
    conv => whnf
    repeat (first | (refine rest_vc ?_; conv => whnf) | (refine ⟨by decide, ?_⟩; conv => whnf))
    refine CallIn.dto (equal_ok _ _ _ _) (k := ?_)
    conv => whnf
    repeat (first | (refine rest_vc ?_; conv => whnf) | (refine ⟨by decide, ?_⟩; conv => whnf))
    obtain ⟨c, hc⟩ : ∃ c, c = eqB x p := ⟨_, rfl⟩
    rw [← hc] at hst
    have hc' : ((strOfNums x.2).toList == (strOfNums p.2).toList) = c := hc.symm
    rw [hc']
    cases c
    · conv => whnf
      repeat (first | (refine rest_vc ?_; conv => whnf) | (refine ⟨by decide, ?_⟩; conv => whnf))
      refine ⟨k + 1, fun _ => 0, ⟨by omega, by omega, ?_⟩, by omega, rfl, ⟨rfl, rfl, congrArg (vI .i64) (succ64 (by omega)), trivial⟩, rfl, fun _ _ => rfl⟩
      rw [hst, k3, List.take_add_one, hx]
      rfl
    · conv => whnf
      repeat (first | (refine rest_vc ?_; conv => whnf) | (refine ⟨by decide, ?_⟩; conv => whnf))
      refine ⟨⟨by omega, by omega⟩, ?_⟩
      conv => whnf
      repeat (first | (refine rest_vc ?_; conv => whnf) | (refine ⟨by decide, ?_⟩; conv => whnf))
      refine ⟨by omega, ?_⟩
      conv => whnf
      repeat (first | (refine rest_vc ?_; conv => whnf) | (refine ⟨by decide, ?_⟩; conv => whnf))
      refine awp_loop3 (n := 66) (α := Nat) (β := Nat) (γ := List BV) (fun j q e => 1 ≤ j ∧ k + j ≤ d.length ∧ e.length = d.length ∧ q ≤ k + j - 1 ∧ 1 ≤ q ∧ e.take q = compB (d.take (k + j)) ∧ e.drop (k + j - 1) = d.drop (k + j - 1))
        (fun j q e => [(0, .sref 0 0 d.length), (1, fnv 32), (5, vI .i64 q), (6, .sref 0 k (d.length - k)), (7, vI .i64 j)]) (fun j q e => [.row T d.length (e.map encB)]) (fun j q e => d.length - k - j) 1 k d (fun _ => 0)
        ⟨Nat.le_refl _, by omega, rfl, by omega, k1, by rw [hst, k3, if_pos rfl, List.append_nil], rfl⟩ rfl ⟨rfl, rfl, rfl, by simp [SV.up], rfl, trivial⟩ rfl (fun _ _ => rfl) (fun _ _ _ => ⟨Nat.le_refl _, rfl, rfl⟩) ?_
      rintro j q e ⟨j1, j2, j3, j4, j5, j6, j7⟩
      conv => whnf
      repeat (first | (refine rest_vc ?_; conv => whnf) | (refine ⟨by decide, ?_⟩; conv => whnf))
      split <;> rename_i u <;> (conv => whnf) <;> repeat (first | (refine rest_vc ?_; conv => whnf) | (refine ⟨by decide, ?_⟩; conv => whnf))
      · have u := of_decide_eq_true u
        obtain ⟨y, hy⟩ : ∃ y, d[k + j]? = some y := ⟨_, List.getElem?_eq_getElem (by omega)⟩
        obtain ⟨z, hz⟩ : ∃ z, d[k + j - 1]? = some z := ⟨_, List.getElem?_eq_getElem (by omega)⟩
        have ej := pred64 (j := j) (by omega) (by omega)
        have hs2 := comp_step (k := k + j) (by omega) hy hz
        have hy' : e[k + j]? = some y := (drop_get j7 (by omega)).trans hy
        have hz' : e[k + j - 1]? = some z := (drop_get j7 (by omega)).trans hz
        refine hand_draw [] (fun _ r => r = vB (eqB y z)) rfl (by kernel_rfl) rfl ?_
        conv => whnf
        repeat (first | (refine rest_vc ?_; conv => whnf) | (refine ⟨by decide, ?_⟩; conv => whnf))
        refine ⟨by omega, ?_⟩
        conv => whnf
        repeat (first | (refine rest_vc ?_; conv => whnf) | (refine ⟨by decide, ?_⟩; conv => whnf))
        refine ⟨by show k + _ < _; omega, fun r hr => ?_⟩
        rw [Int.toNat_natCast] at hr
        obtain ⟨x', hx', rfl⟩ := map_get hr
        rw [hy'] at hx'
        cases hx'
        conv => whnf
        repeat (first | (refine rest_vc ?_; conv => whnf) | (refine ⟨by decide, ?_⟩; conv => whnf))
        refine ⟨by omega, ?_⟩
        conv => whnf
        repeat (first | (refine rest_vc ?_; conv => whnf) | (refine ⟨by decide, ?_⟩; conv => whnf))
        refine ⟨by show k + _ < _; omega, fun r hr => ?_⟩
        rw [ej, Int.toNat_natCast, show k + (j - 1) = k + j - 1 by omega] at hr
        obtain ⟨x', hx', rfl⟩ := map_get hr
        rw [hz'] at hx'
        cases hx'
        conv => whnf
        repeat (first | (refine rest_vc ?_; conv => whnf) | (refine ⟨by decide, ?_⟩; conv => whnf))
        refine CallIn.dto (equal_ok _ _ _ _) (k := ?_)
        conv => whnf
        repeat (first | (refine rest_vc ?_; conv => whnf) | (refine ⟨by decide, ?_⟩; conv => whnf))
        obtain ⟨c, hc2⟩ : ∃ c, c = eqB y z := ⟨_, rfl⟩
        rw [← hc2] at hs2
        have hc3 : ((strOfNums y.2).toList == (strOfNums z.2).toList) = c := hc2.symm
        rw [hc3]
        have dn : e.drop (k + (j + 1) - 1) = d.drop (k + (j + 1) - 1) := by
          have := congrArg (fun l : List BV => l.drop 1) j7
          simpa [List.drop_drop, show k + j - 1 + 1 = k + (j + 1) - 1 by omega] using this
        cases c
        · conv => whnf
          repeat (first | (refine rest_vc ?_; conv => whnf) | (refine ⟨by decide, ?_⟩; conv => whnf))
          refine ⟨by omega, ?_⟩
          conv => whnf
          repeat (first | (refine rest_vc ?_; conv => whnf) | (refine ⟨by decide, ?_⟩; conv => whnf))
          refine ⟨by show k + _ < _; omega, fun r hr => ?_⟩
          rw [Int.toNat_natCast] at hr
          obtain ⟨x', hx', rfl⟩ := map_get hr
          rw [hy'] at hx'
          cases hx'
          conv => whnf
          repeat (first | (refine rest_vc ?_; conv => whnf) | (refine ⟨by decide, ?_⟩; conv => whnf))
          refine ⟨by omega, ?_⟩
          conv => whnf
          repeat (first | (refine rest_vc ?_; conv => whnf) | (refine ⟨by decide, ?_⟩; conv => whnf))
          refine ⟨by show 0 + _ + 1 ≤ _; omega, ?_⟩
          conv => whnf
          repeat (first | (refine rest_vc ?_; conv => whnf) | (refine ⟨by decide, ?_⟩; conv => whnf))
          refine ⟨j + 1, q + 1, e.set q y, fun _ => 0, ⟨by omega, by omega, by rw [List.length_set]; exact j3, by omega, by omega, ?_, ?_⟩, by omega, rfl, ⟨rfl, rfl, congrArg (vI .i64) (succ64 (by omega)), rfl, congrArg (vI .i64) (succ64 (by omega)), trivial⟩, ?_, fun _ _ => rfl⟩
          · rw [show k + (j + 1) = k + j + 1 by omega, hs2, ← j6]
            rw [List.take_add_one, List.take_set_of_le (by omega), List.getElem?_set_self (by omega)]
            rfl
          · rw [← dn, List.drop_set_of_lt (by omega)]
          · show [Ob.row T d.length ((e.map encB).set (0 + q) (encB y))] = [Ob.row T d.length ((e.set q y).map encB)]
            rw [Nat.zero_add, List.map_set]
        · conv => whnf
          repeat (first | (refine rest_vc ?_; conv => whnf) | (refine ⟨by decide, ?_⟩; conv => whnf))
          refine ⟨j + 1, q, e, fun _ => 0, ⟨by omega, by omega, j3, by omega, j5, ?_, dn⟩, by omega, rfl, ⟨rfl, rfl, rfl, rfl, congrArg (vI .i64) (succ64 (by omega)), trivial⟩, rfl, fun _ _ => rfl⟩
          rw [show k + (j + 1) = k + j + 1 by omega, hs2, ← j6]
          simp
      · have u := of_decide_eq_false u
        have hkj : k + j = d.length := by omega
        rw [hkj, List.take_length] at j6
        have hcl : (compB d).length = q := by rw [← j6, List.length_take]; omega
        conv => whnf
        repeat (first | (refine rest_vc ?_; conv => whnf) | (refine ⟨by decide, ?_⟩; conv => whnf))
        refine ⟨⟨by omega, by omega⟩, ?_⟩
        conv => whnf
        repeat (first | (refine rest_vc ?_; conv => whnf) | (refine ⟨by decide, ?_⟩; conv => whnf))
        refine ⟨by omega, ?_⟩
        conv => whnf
        repeat (first | (refine rest_vc ?_; conv => whnf) | (refine ⟨by decide, ?_⟩; conv => whnf))
        refine ⟨by omega, ?_⟩
        conv => whnf
        repeat (first | (refine rest_vc ?_; conv => whnf) | (refine ⟨by decide, ?_⟩; conv => whnf))
        refine ⟨⟨by omega, by omega⟩, ?_⟩
        conv => whnf
        repeat (first | (refine rest_vc ?_; conv => whnf) | (refine ⟨by decide, ?_⟩; conv => whnf))
        refine ⟨by omega, ?_⟩
        conv => whnf
        repeat (first | (refine rest_vc ?_; conv => whnf) | (refine ⟨by decide, ?_⟩; conv => whnf))
        have e2 : (e.map encB).take (0 + (q : Int).toNat) = (compB d).map encB := by rw [← j6, List.map_take]; simp
        refine ⟨_, ?_, congrArg (fun l => [Ob.row T d.length l]) ((List.append_assoc _ _ _).trans (congrArg (fun l => l ++ _) e2))⟩
        show SV.sref 0 (0 + 0) ((q : Int).toNat - 0) = _
        rw [hcl]
        rfl
  · have g := of_decide_eq_false g
    have : k = d.length := by omega
    subst this
    rw [List.take_length] at k3
    exact ⟨[], congrArg (fun n => SV.sref 0 0 n) (by rw [k3]), by rw [k3, List.append_nil]; rfl⟩
end Go.Proofs.Ytlnmkolppgkglaa
