/- law27: the sort's partitions. Printed by gen_part.py. -/
import Derived.Test.Ytlnmkolppgkglaa27S
set_option linter.all false
set_option maxHeartbeats 4000000
set_option maxRecDepth 100000
namespace Go.Proofs.Ytlnmkolppgkglaa
open Go Go.RowKit Go.Sy Go.Proofs Go.Sort

theorem sup_go (p : BV → Bool) {d : Array BV} {j i : Nat} (h : i ≤ j) (hp : p d[i]! = true) : scanUp p d j i = scanUp p d j (i + 1) := by
  conv => lhs; unfold scanUp
  rw [if_pos (by simp [h, hp])]
theorem sup_stop (p : BV → Bool) {d : Array BV} {j i : Nat} (h : i ≤ j → p d[i]! = false) : scanUp p d j i = i := by
  unfold scanUp
  rw [if_neg]
  intro h'
  simp at h'
  have := h h'.1
  rw [h'.2] at this
  cases this
theorem sdn_go (p : BV → Bool) {d : Array BV} {j i : Nat} (h0 : 0 < j) (h : i ≤ j) (hp : p d[j]! = true) : scanDown p d i j = scanDown p d i (j - 1) := by
  obtain ⟨j, rfl⟩ : ∃ m, j = m + 1 := ⟨j - 1, by omega⟩
  conv => lhs; unfold scanDown
  rw [if_pos (by simp [h, hp])]
  rfl
theorem sdn_stop (p : BV → Bool) {d : Array BV} {j i : Nat} (h : i ≤ j → p d[j]! = false) : scanDown p d i j = j := by
  cases j with
  | zero => rfl
  | succ j =>
    unfold scanDown
    rw [if_neg]
    intro h'
    simp at h'
    have := h h'.1
    rw [h'.2] at this
    cases this

theorem partEq_step {a i j x y : Nat} {e : Array BV} (hx : x = scanUp (fun v => !ltB e[a]! v) e j i) (hy : y = scanDown (fun v => ltB e[a]! v) e x j) : partEqLoop ltB a i j e = if x > y then (x, e) else if (y - 1) + 1 - (x + 1) < j + 1 - i then partEqLoop ltB a (x + 1) (y - 1) (swp e x y) else (x, e) := by
  subst hx
  subst hy
  conv => lhs; unfold partEqLoop
  rfl
theorem part_step {a i j x y : Nat} {e : Array BV} (hx : x = scanUp (fun v => ltB v e[a]!) e j i) (hy : y = scanDown (fun v => !ltB v e[a]!) e x j) : partLoop ltB a i j e = if x > y then (y, e) else if (y - 1) + 1 - (x + 1) < j + 1 - i then partLoop ltB a (x + 1) (y - 1) (swp e x y) else (y, e) := by
  subst hx
  subst hy
  conv => lhs; unfold partLoop
  rfl

set_option maxHeartbeats 4000000 in
theorem partEq_ok (nl : Bool) (d : Array BV) (a b v : Nat) (hab : a ≤ v) (hv : v < b) (hb : b ≤ d.size) (hd : d.size < 2 ^ 60) :
    CallOk Try.prog 69 [.vref 0 0, vI .i64 a, vI .i64 b, vI .i64 v, cmpV] [vecB nl d] fun r st' => r = vI .i64 ((partitionEqual ltB d a b v).1 : Nat) ∧ st' = [vecB nl (partitionEqual ltB d a b v).2] := by
  refine callOk_of false 1 Try.func69 rfl rfl (Nat.le_refl _) ?_
  conv => whnf
  repeat (first | (refine rest_vc ?_; conv => whnf) | (refine ⟨by decide, ?_⟩; conv => whnf))
  refine hand_draw [13, 15] (fun _ _ => True) rfl (by kernel_rfl) rfl ?_
  conv => whnf
  repeat (first | (refine rest_vc ?_; conv => whnf) | (refine ⟨by decide, ?_⟩; conv => whnf))
  refine ⟨by simp only [encs_len, List.length_set] <;> omega, ?_⟩
  conv => whnf
  repeat (first | (refine rest_vc ?_; conv => whnf) | (refine ⟨by decide, ?_⟩; conv => whnf))
  refine ⟨by simp only [encs_len, List.length_set] <;> omega, fun p hp => ?_⟩
  simp only [Int.toNat_natCast] at hp
  obtain ⟨rfl, _⟩ := encs_get hp
  clear hp
  conv => whnf
  repeat (first | (refine rest_vc ?_; conv => whnf) | (refine ⟨by decide, ?_⟩; conv => whnf))
  refine ⟨by simp only [encs_len, List.length_set] <;> omega, ?_⟩
  conv => whnf
  repeat (first | (refine rest_vc ?_; conv => whnf) | (refine ⟨by decide, ?_⟩; conv => whnf))
  refine ⟨by simp only [encs_len, List.length_set] <;> omega, fun p hp => ?_⟩
  simp only [Int.toNat_natCast] at hp
  obtain ⟨rfl, _⟩ := encs_get hp
  clear hp
  conv => whnf
  repeat (first | (refine rest_vc ?_; conv => whnf) | (refine ⟨by decide, ?_⟩; conv => whnf))
  refine ⟨by simp only [encs_len, List.length_set] <;> omega, ?_⟩
  conv => whnf
  repeat (first | (refine rest_vc ?_; conv => whnf) | (refine ⟨by decide, ?_⟩; conv => whnf))
  refine ⟨by simp only [encs_len, List.length_set] <;> omega, fun p hp => ?_⟩
  first | obtain ⟨_, rfl⟩ := encs_any0 hp | obtain ⟨_, rfl⟩ := encs_any hp
  clear hp
  conv => whnf
  repeat (first | (refine rest_vc ?_; conv => whnf) | (refine ⟨by decide, ?_⟩; conv => whnf))
  refine ⟨by simp only [encs_len, List.length_set] <;> omega, ?_⟩
  conv => whnf
  repeat (first | (refine rest_vc ?_; conv => whnf) | (refine ⟨by decide, ?_⟩; conv => whnf))
  refine ⟨by simp only [encs_len, List.length_set] <;> omega, fun p hp => ?_⟩
  first | obtain ⟨_, rfl⟩ := encs_any0 hp | obtain ⟨_, rfl⟩ := encs_any hp
  clear hp
  conv => whnf
  repeat (refine ⟨by decide, ?_⟩; conv => whnf)
  obtain ⟨e1, he1⟩ : ∃ e1, e1 = swp d a v := ⟨_, rfl⟩
  have hR : partitionEqual ltB d a b v = partEqLoop ltB a (a + 1) (b - 1) e1 := by rw [he1]; rfl
  have z1 : e1.size = d.size := by rw [he1, swp_sz]
  refine rest_st (st' := [vecB nl e1]) (congrArg (fun l => [Ob.vec 0 22 1 nl l]) ?_) ?_
  · show ((encs d).set _ _).set _ _ = _
    rw [he1]
    exact encs_swp d a v
  rw [hR]
  conv => whnf
  repeat (first | (refine rest_vc ?_; conv => whnf) | (refine ⟨by decide, ?_⟩; conv => whnf))
  refine awp_loop3 (n := 90) (α := Nat) (β := Nat) (γ := Array BV) (fun i j e => a < i ∧ i ≤ j + 2 ∧ j < b ∧ e.size = d.size ∧ partEqLoop ltB a i j e = partEqLoop ltB a (a + 1) (b - 1) e1) (fun i j e => [(0, .vref 0 0), (1, vI .i64 a), (4, cmpV), (11, vI .i64 i), (12, vI .i64 j)]) (fun i j e => [vecB nl e]) (fun i j _ => j + 1 - i) (a + 1) (b - 1) e1 (fun _ => 0)
    ⟨by omega, by omega, by omega, z1, rfl⟩ rfl ⟨rfl, rfl, rfl, congrArg (vI .i64) (succ64 (by omega)), congrArg (vI .i64) (pred64 (by omega) (by omega)), trivial⟩ rfl (fun _ _ => rfl) (fun _ _ _ => ⟨Nat.le_refl _, rfl, rfl⟩) ?_
  rintro i j e ⟨h1, h2, h3, h4, h5⟩
  conv => whnf
  repeat (first | (refine rest_vc ?_; conv => whnf) | (refine ⟨by decide, ?_⟩; conv => whnf))
  refine hand_exit 2 90 (α := Nat) (fun q => i ≤ q ∧ q ≤ j + 2 ∧ q = scanUp (fun x => !ltB e[a]! x) e j i) (fun q => [(0, .vref 0 0), (1, vI .i64 a), (4, cmpV), (11, vI .i64 q), (12, vI .i64 j)]) (fun q => [vecB nl e]) (fun _ => ⟨Nat.le_refl _, rfl, rfl⟩) ?_ ?_
  · refine awp_loop (n := 90) (α := Nat) (fun q => i ≤ q ∧ q ≤ j + 2 ∧ scanUp (fun x => !ltB e[a]! x) e j q = scanUp (fun x => !ltB e[a]! x) e j i) (fun q => [(0, .vref 0 0), (1, vI .i64 a), (4, cmpV), (11, vI .i64 q), (12, vI .i64 j)]) (fun q => [vecB nl e]) (fun q => j + 2 - q) i (fun _ => 0)
      ⟨by omega, by omega, rfl⟩ rfl ⟨rfl, rfl, rfl, rfl, rfl, trivial⟩ rfl (fun _ _ => rfl) (fun _ => ⟨Nat.le_refl _, rfl, rfl⟩) ?_
    rintro q ⟨q1, q2, q3⟩
    conv => whnf
    repeat (first | (refine rest_vc ?_; conv => whnf) | (refine ⟨by decide, ?_⟩; conv => whnf))
    refine hand_draw [] (fun _ r => r = vI .i64 (cmpB e[a]! e[q]!)) rfl (by kernel_rfl) rfl ?_
    conv => whnf
    repeat (first | (refine rest_vc ?_; conv => whnf) | (refine ⟨by decide, ?_⟩; conv => whnf))
    split <;> rename_i g <;> (conv => whnf) <;> repeat (first | (refine rest_vc ?_; conv => whnf) | (refine ⟨by decide, ?_⟩; conv => whnf))
    · have g := of_decide_eq_true g
      refine ⟨by simp only [encs_len, List.length_set] <;> omega, ?_⟩
      conv => whnf
      repeat (first | (refine rest_vc ?_; conv => whnf) | (refine ⟨by decide, ?_⟩; conv => whnf))
      refine ⟨by simp only [encs_len, List.length_set] <;> omega, fun p hp => ?_⟩
      simp only [Int.toNat_natCast] at hp
      obtain ⟨rfl, _⟩ := encs_get hp
      clear hp
      conv => whnf
      repeat (first | (refine rest_vc ?_; conv => whnf) | (refine ⟨by decide, ?_⟩; conv => whnf))
      refine ⟨by simp only [encs_len, List.length_set] <;> omega, ?_⟩
      conv => whnf
      repeat (first | (refine rest_vc ?_; conv => whnf) | (refine ⟨by decide, ?_⟩; conv => whnf))
      refine ⟨by simp only [encs_len, List.length_set] <;> omega, fun p hp => ?_⟩
      simp only [Int.toNat_natCast] at hp
      obtain ⟨rfl, _⟩ := encs_get hp
      clear hp
      conv => whnf
      repeat (first | (refine rest_vc ?_; conv => whnf) | (refine ⟨by decide, ?_⟩; conv => whnf))
      refine CallIn.dto (compare_ok _ _ _ _) (k := ?_)
      conv => whnf
      repeat (first | (refine rest_vc ?_; conv => whnf) | (refine ⟨by decide, ?_⟩; conv => whnf))
      obtain ⟨c, hc⟩ : ∃ c, c = decide (cmpI e[a]!.2 e[q]!.2 < 0) := ⟨_, rfl⟩
      rw [← hc]
      have hlt := lt_cmp hc
      cases c
      · conv => whnf
        repeat (first | (refine rest_vc ?_; conv => whnf) | (refine ⟨by decide, ?_⟩; conv => whnf))
        exact ⟨q + 1, fun _ => 0, ⟨by omega, by omega, by rw [← q3]; exact (sup_go (fun x => !ltB e[a]! x) (by omega) (by show (!ltB e[a]! e[q]!) = true; first | exact hlt | (rw [hlt]; rfl))).symm⟩, by omega, rfl, ⟨rfl, rfl, rfl, congrArg (vI .i64) (succ64 (by omega)), rfl, trivial⟩, rfl, fun _ _ => rfl⟩
      · conv => whnf
        repeat (first | (refine rest_vc ?_; conv => whnf) | (refine ⟨by decide, ?_⟩; conv => whnf))
        exact ⟨q, fun _ => 0, ⟨by omega, by omega, by rw [← q3]; exact (sup_stop (fun x => !ltB e[a]! x) (fun _ => (by show (!ltB e[a]! e[q]!) = false; first | exact hlt | (rw [hlt]; rfl)))).symm⟩, rfl, ⟨rfl, rfl, rfl, rfl, rfl, trivial⟩, rfl, fun _ _ => rfl⟩
    · have g := of_decide_eq_false g
      exact ⟨q, fun _ => 0, ⟨by omega, by omega, by rw [← q3]; exact (sup_stop (fun x => !ltB e[a]! x) (fun h => by omega)).symm⟩, rfl, ⟨rfl, rfl, rfl, rfl, rfl, trivial⟩, rfl, fun _ _ => rfl⟩
  rintro x ⟨x1, x2, x3⟩
  conv => whnf
  repeat (first | (refine rest_vc ?_; conv => whnf) | (refine ⟨by decide, ?_⟩; conv => whnf))
  refine hand_exit 4 90 (α := Nat) (fun q => q ≤ j ∧ x ≤ q + 2 ∧ q = scanDown (fun x => ltB e[a]! x) e x j) (fun q => [(0, .vref 0 0), (1, vI .i64 a), (4, cmpV), (11, vI .i64 x), (12, vI .i64 q)]) (fun q => [vecB nl e]) (fun _ => ⟨Nat.le_refl _, rfl, rfl⟩) ?_ ?_
  · refine awp_loop (n := 90) (α := Nat) (fun q => q ≤ j ∧ x ≤ q + 2 ∧ scanDown (fun x => ltB e[a]! x) e x q = scanDown (fun x => ltB e[a]! x) e x j) (fun q => [(0, .vref 0 0), (1, vI .i64 a), (4, cmpV), (11, vI .i64 x), (12, vI .i64 q)]) (fun q => [vecB nl e]) (fun q => q) j (fun _ => 0)
      ⟨by omega, by omega, rfl⟩ rfl ⟨rfl, rfl, rfl, rfl, rfl, trivial⟩ rfl (fun _ _ => rfl) (fun _ => ⟨Nat.le_refl _, rfl, rfl⟩) ?_
    rintro q ⟨q1, q2, q3⟩
    conv => whnf
    repeat (first | (refine rest_vc ?_; conv => whnf) | (refine ⟨by decide, ?_⟩; conv => whnf))
    refine hand_draw [] (fun _ r => r = vI .i64 (cmpB e[a]! e[q]!)) rfl (by kernel_rfl) rfl ?_
    conv => whnf
    repeat (first | (refine rest_vc ?_; conv => whnf) | (refine ⟨by decide, ?_⟩; conv => whnf))
    split <;> rename_i g <;> (conv => whnf) <;> repeat (first | (refine rest_vc ?_; conv => whnf) | (refine ⟨by decide, ?_⟩; conv => whnf))
    · have g := of_decide_eq_true g
      refine ⟨by simp only [encs_len, List.length_set] <;> omega, ?_⟩
      conv => whnf
      repeat (first | (refine rest_vc ?_; conv => whnf) | (refine ⟨by decide, ?_⟩; conv => whnf))
      refine ⟨by simp only [encs_len, List.length_set] <;> omega, fun p hp => ?_⟩
      simp only [Int.toNat_natCast] at hp
      obtain ⟨rfl, _⟩ := encs_get hp
      clear hp
      conv => whnf
      repeat (first | (refine rest_vc ?_; conv => whnf) | (refine ⟨by decide, ?_⟩; conv => whnf))
      refine ⟨by simp only [encs_len, List.length_set] <;> omega, ?_⟩
      conv => whnf
      repeat (first | (refine rest_vc ?_; conv => whnf) | (refine ⟨by decide, ?_⟩; conv => whnf))
      refine ⟨by simp only [encs_len, List.length_set] <;> omega, fun p hp => ?_⟩
      simp only [Int.toNat_natCast] at hp
      obtain ⟨rfl, _⟩ := encs_get hp
      clear hp
      conv => whnf
      repeat (first | (refine rest_vc ?_; conv => whnf) | (refine ⟨by decide, ?_⟩; conv => whnf))
      refine CallIn.dto (compare_ok _ _ _ _) (k := ?_)
      conv => whnf
      repeat (first | (refine rest_vc ?_; conv => whnf) | (refine ⟨by decide, ?_⟩; conv => whnf))
      obtain ⟨c, hc⟩ : ∃ c, c = decide (cmpI e[a]!.2 e[q]!.2 < 0) := ⟨_, rfl⟩
      rw [← hc]
      have hlt := lt_cmp hc
      cases c
      · conv => whnf
        repeat (first | (refine rest_vc ?_; conv => whnf) | (refine ⟨by decide, ?_⟩; conv => whnf))
        exact ⟨q, fun _ => 0, ⟨by omega, by omega, by rw [← q3]; exact (sdn_stop (fun x => ltB e[a]! x) (fun _ => (by show ltB e[a]! e[q]! = false; first | exact hlt | (rw [hlt]; rfl)))).symm⟩, rfl, ⟨rfl, rfl, rfl, rfl, rfl, trivial⟩, rfl, fun _ _ => rfl⟩
      · conv => whnf
        repeat (first | (refine rest_vc ?_; conv => whnf) | (refine ⟨by decide, ?_⟩; conv => whnf))
        exact ⟨q - 1, fun _ => 0, ⟨by omega, by omega, by rw [← q3]; exact (sdn_go (fun x => ltB e[a]! x) (by omega) (by omega) (by show ltB e[a]! e[q]! = true; first | exact hlt | (rw [hlt]; rfl))).symm⟩, by omega, rfl, ⟨rfl, rfl, rfl, rfl, congrArg (vI .i64) (pred64 (by omega) (by omega)), trivial⟩, rfl, fun _ _ => rfl⟩
    · have g := of_decide_eq_false g
      exact ⟨q, fun _ => 0, ⟨by omega, by omega, by rw [← q3]; exact (sdn_stop (fun x => ltB e[a]! x) (fun h => by omega)).symm⟩, rfl, ⟨rfl, rfl, rfl, rfl, rfl, trivial⟩, rfl, fun _ _ => rfl⟩
  rintro y ⟨y1, y2, y3⟩
  have hst := partEq_step x3 y3
  rw [h5] at hst
  conv => whnf
  repeat (first | (refine rest_vc ?_; conv => whnf) | (refine ⟨by decide, ?_⟩; conv => whnf))
  split <;> rename_i h <;> (conv => whnf) <;> repeat (first | (refine rest_vc ?_; conv => whnf) | (refine ⟨by decide, ?_⟩; conv => whnf))
  · have h := of_decide_eq_true h
    rw [if_pos (by omega)] at hst
    rw [hst]
    exact ⟨rfl, rfl⟩
  · have h := of_decide_eq_false h
    rw [if_neg (by omega), if_pos (by omega)] at hst
    refine hand_draw [13, 15] (fun _ _ => True) rfl (by kernel_rfl) rfl ?_
    conv => whnf
    repeat (first | (refine rest_vc ?_; conv => whnf) | (refine ⟨by decide, ?_⟩; conv => whnf))
    refine ⟨by simp only [encs_len, List.length_set] <;> omega, ?_⟩
    conv => whnf
    repeat (first | (refine rest_vc ?_; conv => whnf) | (refine ⟨by decide, ?_⟩; conv => whnf))
    refine ⟨by simp only [encs_len, List.length_set] <;> omega, fun p hp => ?_⟩
    simp only [Int.toNat_natCast] at hp
    obtain ⟨rfl, _⟩ := encs_get hp
    clear hp
    conv => whnf
    repeat (first | (refine rest_vc ?_; conv => whnf) | (refine ⟨by decide, ?_⟩; conv => whnf))
    refine ⟨by simp only [encs_len, List.length_set] <;> omega, ?_⟩
    conv => whnf
    repeat (first | (refine rest_vc ?_; conv => whnf) | (refine ⟨by decide, ?_⟩; conv => whnf))
    refine ⟨by simp only [encs_len, List.length_set] <;> omega, fun p hp => ?_⟩
    simp only [Int.toNat_natCast] at hp
    obtain ⟨rfl, _⟩ := encs_get hp
    clear hp
    conv => whnf
    repeat (first | (refine rest_vc ?_; conv => whnf) | (refine ⟨by decide, ?_⟩; conv => whnf))
    refine ⟨by simp only [encs_len, List.length_set] <;> omega, ?_⟩
    conv => whnf
    repeat (first | (refine rest_vc ?_; conv => whnf) | (refine ⟨by decide, ?_⟩; conv => whnf))
    refine ⟨by simp only [encs_len, List.length_set] <;> omega, fun p hp => ?_⟩
    first | obtain ⟨_, rfl⟩ := encs_any0 hp | obtain ⟨_, rfl⟩ := encs_any hp
    clear hp
    conv => whnf
    repeat (first | (refine rest_vc ?_; conv => whnf) | (refine ⟨by decide, ?_⟩; conv => whnf))
    refine ⟨by simp only [encs_len, List.length_set] <;> omega, ?_⟩
    conv => whnf
    repeat (first | (refine rest_vc ?_; conv => whnf) | (refine ⟨by decide, ?_⟩; conv => whnf))
    refine ⟨by simp only [encs_len, List.length_set] <;> omega, fun p hp => ?_⟩
    first | obtain ⟨_, rfl⟩ := encs_any0 hp | obtain ⟨_, rfl⟩ := encs_any hp
    clear hp
    conv => whnf
    repeat (first | (refine rest_vc ?_; conv => whnf) | (refine ⟨by decide, ?_⟩; conv => whnf))
    exact ⟨x + 1, y - 1, swp e x y, fun _ => 0, ⟨by omega, by omega, by omega, by rw [swp_sz]; exact h4, hst.symm⟩, by omega, rfl, ⟨rfl, rfl, rfl, congrArg (vI .i64) (succ64 (by omega)), congrArg (vI .i64) (pred64 (by omega) (by omega)), trivial⟩, congrArg (fun l => [Ob.vec 0 22 1 nl l]) (encs_swp e x y), fun _ _ => rfl⟩

set_option maxHeartbeats 4000000 in
theorem part_ok (nl : Bool) (d : Array BV) (a b v : Nat) (hab : a ≤ v) (hv : v < b) (hb : b ≤ d.size) (hd : d.size < 2 ^ 60) :
    CallOk Try.prog 70 [.vref 0 0, vI .i64 a, vI .i64 b, vI .i64 v, cmpV] [vecB nl d] fun r st' => r = .tup [vI .i64 ((Go.Sort.partition ltB d a b v).1 : Nat), vB (Go.Sort.partition ltB d a b v).2.1] ∧ st' = [vecB nl (Go.Sort.partition ltB d a b v).2.2] := by
  refine callOk_of false 1 Try.func70 rfl rfl (Nat.le_refl _) ?_
  have z0 : d.size = d.size := rfl
  conv => whnf
  repeat (first | (refine rest_vc ?_; conv => whnf) | (refine ⟨by decide, ?_⟩; conv => whnf))
  refine hand_draw [13, 15] (fun _ _ => True) rfl (by kernel_rfl) rfl ?_
  conv => whnf
  repeat (first | (refine rest_vc ?_; conv => whnf) | (refine ⟨by decide, ?_⟩; conv => whnf))
  refine ⟨by simp only [encs_len, List.length_set] <;> omega, ?_⟩
  conv => whnf
  repeat (first | (refine rest_vc ?_; conv => whnf) | (refine ⟨by decide, ?_⟩; conv => whnf))
  refine ⟨by simp only [encs_len, List.length_set] <;> omega, fun p hp => ?_⟩
  simp only [Int.toNat_natCast] at hp
  obtain ⟨rfl, _⟩ := encs_get hp
  clear hp
  conv => whnf
  repeat (first | (refine rest_vc ?_; conv => whnf) | (refine ⟨by decide, ?_⟩; conv => whnf))
  refine ⟨by simp only [encs_len, List.length_set] <;> omega, ?_⟩
  conv => whnf
  repeat (first | (refine rest_vc ?_; conv => whnf) | (refine ⟨by decide, ?_⟩; conv => whnf))
  refine ⟨by simp only [encs_len, List.length_set] <;> omega, fun p hp => ?_⟩
  simp only [Int.toNat_natCast] at hp
  obtain ⟨rfl, _⟩ := encs_get hp
  clear hp
  conv => whnf
  repeat (first | (refine rest_vc ?_; conv => whnf) | (refine ⟨by decide, ?_⟩; conv => whnf))
  refine ⟨by simp only [encs_len, List.length_set] <;> omega, ?_⟩
  conv => whnf
  repeat (first | (refine rest_vc ?_; conv => whnf) | (refine ⟨by decide, ?_⟩; conv => whnf))
  refine ⟨by simp only [encs_len, List.length_set] <;> omega, fun p hp => ?_⟩
  first | obtain ⟨_, rfl⟩ := encs_any0 hp | obtain ⟨_, rfl⟩ := encs_any hp
  clear hp
  conv => whnf
  repeat (first | (refine rest_vc ?_; conv => whnf) | (refine ⟨by decide, ?_⟩; conv => whnf))
  refine ⟨by simp only [encs_len, List.length_set] <;> omega, ?_⟩
  conv => whnf
  repeat (first | (refine rest_vc ?_; conv => whnf) | (refine ⟨by decide, ?_⟩; conv => whnf))
  refine ⟨by simp only [encs_len, List.length_set] <;> omega, fun p hp => ?_⟩
  first | obtain ⟨_, rfl⟩ := encs_any0 hp | obtain ⟨_, rfl⟩ := encs_any hp
  clear hp
  conv => whnf
  repeat (refine ⟨by decide, ?_⟩; conv => whnf)
  obtain ⟨e1, he1⟩ : ∃ e, e = swp d a v := ⟨_, rfl⟩
  have ze1 : e1.size = d.size := by rw [he1, swp_sz] <;> assumption
  refine rest_st (st' := [vecB nl e1]) (congrArg (fun l => [Ob.vec 0 22 1 nl l]) ?_) ?_
  · show ((encs d).set _ _).set _ _ = _
    rw [he1]
    exact encs_swp d a v
  obtain ⟨i0, hi0⟩ : ∃ i0, i0 = a + 1 := ⟨_, rfl⟩
  obtain ⟨j0, hj0⟩ : ∃ j0, j0 = b - 1 := ⟨_, rfl⟩
  have ei0 : IntKind.i64.wrap ((a : Int) + 1) = (i0 : Int) := by rw [hi0]; exact succ64 (by omega)
  have ej0 : IntKind.i64.wrap ((b : Int) - 1) = (j0 : Int) := by rw [hj0]; exact pred64 (by omega) (by omega)
  refine rest_vc ?_
  conv => whnf
  repeat (first | (refine rest_vc ?_; conv => whnf) | (refine ⟨by decide, ?_⟩; conv => whnf))
  refine hand_exit 0 178 (α := Nat) (fun q => i0 ≤ q ∧ q ≤ j0 + 2 ∧ q = scanUp (fun x => ltB x e1[a]!) e1 j0 i0) (fun q => [(0, .vref 0 0), (1, vI .i64 a), (4, cmpV), (12, vI .i64 q), (13, vI .i64 j0)]) (fun q => [vecB nl e1]) (fun _ => ⟨Nat.le_refl _, rfl, rfl⟩) ?_ ?_
  · refine awp_loop (n := 178) (α := Nat) (fun q => i0 ≤ q ∧ q ≤ j0 + 2 ∧ scanUp (fun x => ltB x e1[a]!) e1 j0 q = scanUp (fun x => ltB x e1[a]!) e1 j0 i0) (fun q => [(0, .vref 0 0), (1, vI .i64 a), (4, cmpV), (12, vI .i64 q), (13, vI .i64 j0)]) (fun q => [vecB nl e1]) (fun q => j0 + 2 - q) i0 (fun _ => 0)
      ⟨by omega, by omega, rfl⟩ rfl ⟨rfl, rfl, rfl, congrArg (vI .i64) ei0, congrArg (vI .i64) ej0, trivial⟩ rfl (fun _ _ => rfl) (fun _ => ⟨Nat.le_refl _, rfl, rfl⟩) ?_
    rintro q ⟨q1, q2, q3⟩
    conv => whnf
    repeat (first | (refine rest_vc ?_; conv => whnf) | (refine ⟨by decide, ?_⟩; conv => whnf))
    refine hand_draw [] (fun _ r => r = vI .i64 (cmpB e1[q]! e1[a]!)) rfl (by kernel_rfl) rfl ?_
    conv => whnf
    repeat (first | (refine rest_vc ?_; conv => whnf) | (refine ⟨by decide, ?_⟩; conv => whnf))
    split <;> rename_i g <;> (conv => whnf) <;> repeat (first | (refine rest_vc ?_; conv => whnf) | (refine ⟨by decide, ?_⟩; conv => whnf))
    · have g := of_decide_eq_true g
      refine ⟨by simp only [encs_len, List.length_set] <;> omega, ?_⟩
      conv => whnf
      repeat (first | (refine rest_vc ?_; conv => whnf) | (refine ⟨by decide, ?_⟩; conv => whnf))
      refine ⟨by simp only [encs_len, List.length_set] <;> omega, fun p hp => ?_⟩
      simp only [Int.toNat_natCast] at hp
      obtain ⟨rfl, _⟩ := encs_get hp
      clear hp
      conv => whnf
      repeat (first | (refine rest_vc ?_; conv => whnf) | (refine ⟨by decide, ?_⟩; conv => whnf))
      refine ⟨by simp only [encs_len, List.length_set] <;> omega, ?_⟩
      conv => whnf
      repeat (first | (refine rest_vc ?_; conv => whnf) | (refine ⟨by decide, ?_⟩; conv => whnf))
      refine ⟨by simp only [encs_len, List.length_set] <;> omega, fun p hp => ?_⟩
      simp only [Int.toNat_natCast] at hp
      obtain ⟨rfl, _⟩ := encs_get hp
      clear hp
      conv => whnf
      repeat (first | (refine rest_vc ?_; conv => whnf) | (refine ⟨by decide, ?_⟩; conv => whnf))
      refine CallIn.dto (compare_ok _ _ _ _) (k := ?_)
      conv => whnf
      repeat (first | (refine rest_vc ?_; conv => whnf) | (refine ⟨by decide, ?_⟩; conv => whnf))
      obtain ⟨c, hc⟩ : ∃ c, c = decide (cmpI e1[q]!.2 e1[a]!.2 < 0) := ⟨_, rfl⟩
      rw [← hc]
      have hlt := lt_cmp hc
      cases c
      · conv => whnf
        repeat (first | (refine rest_vc ?_; conv => whnf) | (refine ⟨by decide, ?_⟩; conv => whnf))
        exact ⟨q, fun _ => 0, ⟨by omega, by omega, by rw [← q3]; exact (sup_stop (fun x => ltB x e1[a]!) (fun _ => (by show ltB e1[q]! e1[a]! = false; first | exact hlt | (rw [hlt]; rfl)))).symm⟩, rfl, ⟨rfl, rfl, rfl, rfl, rfl, trivial⟩, rfl, fun _ _ => rfl⟩
      · conv => whnf
        repeat (first | (refine rest_vc ?_; conv => whnf) | (refine ⟨by decide, ?_⟩; conv => whnf))
        exact ⟨q + 1, fun _ => 0, ⟨by omega, by omega, by rw [← q3]; exact (sup_go (fun x => ltB x e1[a]!) (by omega) (by show ltB e1[q]! e1[a]! = true; first | exact hlt | (rw [hlt]; rfl))).symm⟩, by omega, rfl, ⟨rfl, rfl, rfl, congrArg (vI .i64) (succ64 (by omega)), rfl, trivial⟩, rfl, fun _ _ => rfl⟩
    · have g := of_decide_eq_false g
      exact ⟨q, fun _ => 0, ⟨by omega, by omega, by rw [← q3]; exact (sup_stop (fun x => ltB x e1[a]!) (fun h => by omega)).symm⟩, rfl, ⟨rfl, rfl, rfl, rfl, rfl, trivial⟩, rfl, fun _ _ => rfl⟩
  rintro x ⟨x1, x2, x3⟩
  conv => whnf
  repeat (first | (refine rest_vc ?_; conv => whnf) | (refine ⟨by decide, ?_⟩; conv => whnf))
  refine hand_exit 2 178 (α := Nat) (fun q => q ≤ j0 ∧ x ≤ q + 2 ∧ q = scanDown (fun x => !ltB x e1[a]!) e1 x j0) (fun q => [(0, .vref 0 0), (1, vI .i64 a), (4, cmpV), (12, vI .i64 x), (13, vI .i64 q)]) (fun q => [vecB nl e1]) (fun _ => ⟨Nat.le_refl _, rfl, rfl⟩) ?_ ?_
  · refine awp_loop (n := 178) (α := Nat) (fun q => q ≤ j0 ∧ x ≤ q + 2 ∧ scanDown (fun x => !ltB x e1[a]!) e1 x q = scanDown (fun x => !ltB x e1[a]!) e1 x j0) (fun q => [(0, .vref 0 0), (1, vI .i64 a), (4, cmpV), (12, vI .i64 x), (13, vI .i64 q)]) (fun q => [vecB nl e1]) (fun q => q) j0 (fun _ => 0)
      ⟨by omega, by omega, rfl⟩ rfl ⟨rfl, rfl, rfl, rfl, rfl, trivial⟩ rfl (fun _ _ => rfl) (fun _ => ⟨Nat.le_refl _, rfl, rfl⟩) ?_
    rintro q ⟨q1, q2, q3⟩
    conv => whnf
    repeat (first | (refine rest_vc ?_; conv => whnf) | (refine ⟨by decide, ?_⟩; conv => whnf))
    refine hand_draw [] (fun _ r => r = vI .i64 (cmpB e1[q]! e1[a]!)) rfl (by kernel_rfl) rfl ?_
    conv => whnf
    repeat (first | (refine rest_vc ?_; conv => whnf) | (refine ⟨by decide, ?_⟩; conv => whnf))
    split <;> rename_i g <;> (conv => whnf) <;> repeat (first | (refine rest_vc ?_; conv => whnf) | (refine ⟨by decide, ?_⟩; conv => whnf))
    · have g := of_decide_eq_true g
      refine ⟨by simp only [encs_len, List.length_set] <;> omega, ?_⟩
      conv => whnf
      repeat (first | (refine rest_vc ?_; conv => whnf) | (refine ⟨by decide, ?_⟩; conv => whnf))
      refine ⟨by simp only [encs_len, List.length_set] <;> omega, fun p hp => ?_⟩
      simp only [Int.toNat_natCast] at hp
      obtain ⟨rfl, _⟩ := encs_get hp
      clear hp
      conv => whnf
      repeat (first | (refine rest_vc ?_; conv => whnf) | (refine ⟨by decide, ?_⟩; conv => whnf))
      refine ⟨by simp only [encs_len, List.length_set] <;> omega, ?_⟩
      conv => whnf
      repeat (first | (refine rest_vc ?_; conv => whnf) | (refine ⟨by decide, ?_⟩; conv => whnf))
      refine ⟨by simp only [encs_len, List.length_set] <;> omega, fun p hp => ?_⟩
      simp only [Int.toNat_natCast] at hp
      obtain ⟨rfl, _⟩ := encs_get hp
      clear hp
      conv => whnf
      repeat (first | (refine rest_vc ?_; conv => whnf) | (refine ⟨by decide, ?_⟩; conv => whnf))
      refine CallIn.dto (compare_ok _ _ _ _) (k := ?_)
      conv => whnf
      repeat (first | (refine rest_vc ?_; conv => whnf) | (refine ⟨by decide, ?_⟩; conv => whnf))
      obtain ⟨c, hc⟩ : ∃ c, c = decide (cmpI e1[q]!.2 e1[a]!.2 < 0) := ⟨_, rfl⟩
      rw [← hc]
      have hlt := lt_cmp hc
      cases c
      · conv => whnf
        repeat (first | (refine rest_vc ?_; conv => whnf) | (refine ⟨by decide, ?_⟩; conv => whnf))
        exact ⟨q - 1, fun _ => 0, ⟨by omega, by omega, by rw [← q3]; exact (sdn_go (fun x => !ltB x e1[a]!) (by omega) (by omega) (by show (!ltB e1[q]! e1[a]!) = true; first | exact hlt | (rw [hlt]; rfl))).symm⟩, by omega, rfl, ⟨rfl, rfl, rfl, rfl, congrArg (vI .i64) (pred64 (by omega) (by omega)), trivial⟩, rfl, fun _ _ => rfl⟩
      · conv => whnf
        repeat (first | (refine rest_vc ?_; conv => whnf) | (refine ⟨by decide, ?_⟩; conv => whnf))
        exact ⟨q, fun _ => 0, ⟨by omega, by omega, by rw [← q3]; exact (sdn_stop (fun x => !ltB x e1[a]!) (fun _ => (by show (!ltB e1[q]! e1[a]!) = false; first | exact hlt | (rw [hlt]; rfl)))).symm⟩, rfl, ⟨rfl, rfl, rfl, rfl, rfl, trivial⟩, rfl, fun _ _ => rfl⟩
    · have g := of_decide_eq_false g
      exact ⟨q, fun _ => 0, ⟨by omega, by omega, by rw [← q3]; exact (sdn_stop (fun x => !ltB x e1[a]!) (fun h => by omega)).symm⟩, rfl, ⟨rfl, rfl, rfl, rfl, rfl, trivial⟩, rfl, fun _ _ => rfl⟩
  rintro y ⟨y1, y2, y3⟩
  have hR : Go.Sort.partition ltB d a b v = if x > y then (y, true, swp e1 y a) else ((partLoop ltB a (x + 1) (y - 1) (swp e1 x y)).1, false, swp (partLoop ltB a (x + 1) (y - 1) (swp e1 x y)).2 (partLoop ltB a (x + 1) (y - 1) (swp e1 x y)).1 a) := by
    rw [x3] at y3
    rw [y3, x3, hi0, hj0, he1]
    rfl
  conv => whnf
  repeat (first | (refine rest_vc ?_; conv => whnf) | (refine ⟨by decide, ?_⟩; conv => whnf))
  split <;> rename_i h <;> (conv => whnf) <;> repeat (first | (refine rest_vc ?_; conv => whnf) | (refine ⟨by decide, ?_⟩; conv => whnf))
  · have h := of_decide_eq_true h
    rw [if_pos (by omega)] at hR
    rw [hR]
    refine hand_draw [13, 15] (fun _ _ => True) rfl (by kernel_rfl) rfl ?_
    conv => whnf
    repeat (first | (refine rest_vc ?_; conv => whnf) | (refine ⟨by decide, ?_⟩; conv => whnf))
    refine ⟨by simp only [encs_len, List.length_set] <;> omega, ?_⟩
    conv => whnf
    repeat (first | (refine rest_vc ?_; conv => whnf) | (refine ⟨by decide, ?_⟩; conv => whnf))
    refine ⟨by simp only [encs_len, List.length_set] <;> omega, fun p hp => ?_⟩
    simp only [Int.toNat_natCast] at hp
    obtain ⟨rfl, _⟩ := encs_get hp
    clear hp
    conv => whnf
    repeat (first | (refine rest_vc ?_; conv => whnf) | (refine ⟨by decide, ?_⟩; conv => whnf))
    refine ⟨by simp only [encs_len, List.length_set] <;> omega, ?_⟩
    conv => whnf
    repeat (first | (refine rest_vc ?_; conv => whnf) | (refine ⟨by decide, ?_⟩; conv => whnf))
    refine ⟨by simp only [encs_len, List.length_set] <;> omega, fun p hp => ?_⟩
    simp only [Int.toNat_natCast] at hp
    obtain ⟨rfl, _⟩ := encs_get hp
    clear hp
    conv => whnf
    repeat (first | (refine rest_vc ?_; conv => whnf) | (refine ⟨by decide, ?_⟩; conv => whnf))
    refine ⟨by simp only [encs_len, List.length_set] <;> omega, ?_⟩
    conv => whnf
    repeat (first | (refine rest_vc ?_; conv => whnf) | (refine ⟨by decide, ?_⟩; conv => whnf))
    refine ⟨by simp only [encs_len, List.length_set] <;> omega, fun p hp => ?_⟩
    first | obtain ⟨_, rfl⟩ := encs_any0 hp | obtain ⟨_, rfl⟩ := encs_any hp
    clear hp
    conv => whnf
    repeat (first | (refine rest_vc ?_; conv => whnf) | (refine ⟨by decide, ?_⟩; conv => whnf))
    refine ⟨by simp only [encs_len, List.length_set] <;> omega, ?_⟩
    conv => whnf
    repeat (first | (refine rest_vc ?_; conv => whnf) | (refine ⟨by decide, ?_⟩; conv => whnf))
    refine ⟨by simp only [encs_len, List.length_set] <;> omega, fun p hp => ?_⟩
    first | obtain ⟨_, rfl⟩ := encs_any0 hp | obtain ⟨_, rfl⟩ := encs_any hp
    clear hp
    conv => whnf
    repeat (first | (refine rest_vc ?_; conv => whnf) | (refine ⟨by decide, ?_⟩; conv => whnf))
    exact ⟨rfl, congrArg (fun l => [Ob.vec 0 22 1 nl l]) (encs_swp e1 y a)⟩
  have h := of_decide_eq_false h
  rw [if_neg (by omega)] at hR
  refine hand_draw [13, 15] (fun _ _ => True) rfl (by kernel_rfl) rfl ?_
  conv => whnf
  repeat (first | (refine rest_vc ?_; conv => whnf) | (refine ⟨by decide, ?_⟩; conv => whnf))
  refine ⟨by simp only [encs_len, List.length_set] <;> omega, ?_⟩
  conv => whnf
  repeat (first | (refine rest_vc ?_; conv => whnf) | (refine ⟨by decide, ?_⟩; conv => whnf))
  refine ⟨by simp only [encs_len, List.length_set] <;> omega, fun p hp => ?_⟩
  simp only [Int.toNat_natCast] at hp
  obtain ⟨rfl, _⟩ := encs_get hp
  clear hp
  conv => whnf
  repeat (first | (refine rest_vc ?_; conv => whnf) | (refine ⟨by decide, ?_⟩; conv => whnf))
  refine ⟨by simp only [encs_len, List.length_set] <;> omega, ?_⟩
  conv => whnf
  repeat (first | (refine rest_vc ?_; conv => whnf) | (refine ⟨by decide, ?_⟩; conv => whnf))
  refine ⟨by simp only [encs_len, List.length_set] <;> omega, fun p hp => ?_⟩
  simp only [Int.toNat_natCast] at hp
  obtain ⟨rfl, _⟩ := encs_get hp
  clear hp
  conv => whnf
  repeat (first | (refine rest_vc ?_; conv => whnf) | (refine ⟨by decide, ?_⟩; conv => whnf))
  refine ⟨by simp only [encs_len, List.length_set] <;> omega, ?_⟩
  conv => whnf
  repeat (first | (refine rest_vc ?_; conv => whnf) | (refine ⟨by decide, ?_⟩; conv => whnf))
  refine ⟨by simp only [encs_len, List.length_set] <;> omega, fun p hp => ?_⟩
  first | obtain ⟨_, rfl⟩ := encs_any0 hp | obtain ⟨_, rfl⟩ := encs_any hp
  clear hp
  conv => whnf
  repeat (first | (refine rest_vc ?_; conv => whnf) | (refine ⟨by decide, ?_⟩; conv => whnf))
  refine ⟨by simp only [encs_len, List.length_set] <;> omega, ?_⟩
  conv => whnf
  repeat (first | (refine rest_vc ?_; conv => whnf) | (refine ⟨by decide, ?_⟩; conv => whnf))
  refine ⟨by simp only [encs_len, List.length_set] <;> omega, fun p hp => ?_⟩
  first | obtain ⟨_, rfl⟩ := encs_any0 hp | obtain ⟨_, rfl⟩ := encs_any hp
  clear hp
  conv => whnf
  repeat (refine ⟨by decide, ?_⟩; conv => whnf)
  obtain ⟨e2, he2⟩ : ∃ e, e = swp e1 x y := ⟨_, rfl⟩
  have ze2 : e2.size = d.size := by rw [he2, swp_sz] <;> assumption
  refine rest_st (st' := [vecB nl e2]) (congrArg (fun l => [Ob.vec 0 22 1 nl l]) ?_) ?_
  · show ((encs e1).set _ _).set _ _ = _
    rw [he2]
    exact encs_swp e1 x y
  rw [← he2] at hR
  refine rest_vc ?_
  conv => whnf
  repeat (first | (refine rest_vc ?_; conv => whnf) | (refine ⟨by decide, ?_⟩; conv => whnf))
  refine awp_loop3 (n := 178) (α := Nat) (β := Nat) (γ := Array BV) (fun i j e => a < i ∧ i ≤ j + 2 ∧ j < b ∧ e.size = d.size ∧ partLoop ltB a i j e = partLoop ltB a (x + 1) (y - 1) e2) (fun i j e => [(0, .vref 0 0), (1, vI .i64 a), (4, cmpV), (12, vI .i64 i), (13, vI .i64 j)]) (fun i j e => [vecB nl e]) (fun i j _ => j + 1 - i) (x + 1) (y - 1) e2 (fun _ => 0)
    ⟨by omega, by omega, by omega, ze2, rfl⟩ rfl ⟨rfl, rfl, rfl, congrArg (vI .i64) (succ64 (by omega)), congrArg (vI .i64) (pred64 (by omega) (by omega)), trivial⟩ rfl (fun _ _ => rfl) (fun _ _ _ => ⟨Nat.le_refl _, rfl, rfl⟩) ?_
  clear x3 y3 h x1 x2 y1 y2
  rintro i j e ⟨h1, h2, h3, h4, h5⟩
  conv => whnf
  repeat (first | (refine rest_vc ?_; conv => whnf) | (refine ⟨by decide, ?_⟩; conv => whnf))
  refine hand_exit 6 178 (α := Nat) (fun q => i ≤ q ∧ q ≤ j + 2 ∧ q = scanUp (fun x => ltB x e[a]!) e j i) (fun q => [(0, .vref 0 0), (1, vI .i64 a), (4, cmpV), (12, vI .i64 q), (13, vI .i64 j)]) (fun q => [vecB nl e]) (fun _ => ⟨Nat.le_refl _, rfl, rfl⟩) ?_ ?_
  · refine awp_loop (n := 178) (α := Nat) (fun q => i ≤ q ∧ q ≤ j + 2 ∧ scanUp (fun x => ltB x e[a]!) e j q = scanUp (fun x => ltB x e[a]!) e j i) (fun q => [(0, .vref 0 0), (1, vI .i64 a), (4, cmpV), (12, vI .i64 q), (13, vI .i64 j)]) (fun q => [vecB nl e]) (fun q => j + 2 - q) i (fun _ => 0)
      ⟨by omega, by omega, rfl⟩ rfl ⟨rfl, rfl, rfl, rfl, rfl, trivial⟩ rfl (fun _ _ => rfl) (fun _ => ⟨Nat.le_refl _, rfl, rfl⟩) ?_
    rintro q ⟨q1, q2, q3⟩
    conv => whnf
    repeat (first | (refine rest_vc ?_; conv => whnf) | (refine ⟨by decide, ?_⟩; conv => whnf))
    refine hand_draw [] (fun _ r => r = vI .i64 (cmpB e[q]! e[a]!)) rfl (by kernel_rfl) rfl ?_
    conv => whnf
    repeat (first | (refine rest_vc ?_; conv => whnf) | (refine ⟨by decide, ?_⟩; conv => whnf))
    split <;> rename_i g <;> (conv => whnf) <;> repeat (first | (refine rest_vc ?_; conv => whnf) | (refine ⟨by decide, ?_⟩; conv => whnf))
    · have g := of_decide_eq_true g
      refine ⟨by simp only [encs_len, List.length_set] <;> omega, ?_⟩
      conv => whnf
      repeat (first | (refine rest_vc ?_; conv => whnf) | (refine ⟨by decide, ?_⟩; conv => whnf))
      refine ⟨by simp only [encs_len, List.length_set] <;> omega, fun p hp => ?_⟩
      simp only [Int.toNat_natCast] at hp
      obtain ⟨rfl, _⟩ := encs_get hp
      clear hp
      conv => whnf
      repeat (first | (refine rest_vc ?_; conv => whnf) | (refine ⟨by decide, ?_⟩; conv => whnf))
      refine ⟨by simp only [encs_len, List.length_set] <;> omega, ?_⟩
      conv => whnf
      repeat (first | (refine rest_vc ?_; conv => whnf) | (refine ⟨by decide, ?_⟩; conv => whnf))
      refine ⟨by simp only [encs_len, List.length_set] <;> omega, fun p hp => ?_⟩
      simp only [Int.toNat_natCast] at hp
      obtain ⟨rfl, _⟩ := encs_get hp
      clear hp
      conv => whnf
      repeat (first | (refine rest_vc ?_; conv => whnf) | (refine ⟨by decide, ?_⟩; conv => whnf))
      refine CallIn.dto (compare_ok _ _ _ _) (k := ?_)
      conv => whnf
      repeat (first | (refine rest_vc ?_; conv => whnf) | (refine ⟨by decide, ?_⟩; conv => whnf))
      obtain ⟨c, hc⟩ : ∃ c, c = decide (cmpI e[q]!.2 e[a]!.2 < 0) := ⟨_, rfl⟩
      rw [← hc]
      have hlt := lt_cmp hc
      cases c
      · conv => whnf
        repeat (first | (refine rest_vc ?_; conv => whnf) | (refine ⟨by decide, ?_⟩; conv => whnf))
        exact ⟨q, fun _ => 0, ⟨by omega, by omega, by rw [← q3]; exact (sup_stop (fun x => ltB x e[a]!) (fun _ => (by show ltB e[q]! e[a]! = false; first | exact hlt | (rw [hlt]; rfl)))).symm⟩, rfl, ⟨rfl, rfl, rfl, rfl, rfl, trivial⟩, rfl, fun _ _ => rfl⟩
      · conv => whnf
        repeat (first | (refine rest_vc ?_; conv => whnf) | (refine ⟨by decide, ?_⟩; conv => whnf))
        exact ⟨q + 1, fun _ => 0, ⟨by omega, by omega, by rw [← q3]; exact (sup_go (fun x => ltB x e[a]!) (by omega) (by show ltB e[q]! e[a]! = true; first | exact hlt | (rw [hlt]; rfl))).symm⟩, by omega, rfl, ⟨rfl, rfl, rfl, congrArg (vI .i64) (succ64 (by omega)), rfl, trivial⟩, rfl, fun _ _ => rfl⟩
    · have g := of_decide_eq_false g
      exact ⟨q, fun _ => 0, ⟨by omega, by omega, by rw [← q3]; exact (sup_stop (fun x => ltB x e[a]!) (fun h => by omega)).symm⟩, rfl, ⟨rfl, rfl, rfl, rfl, rfl, trivial⟩, rfl, fun _ _ => rfl⟩
  rintro s ⟨s1, s2, s3⟩
  conv => whnf
  repeat (first | (refine rest_vc ?_; conv => whnf) | (refine ⟨by decide, ?_⟩; conv => whnf))
  refine hand_exit 8 178 (α := Nat) (fun q => q ≤ j ∧ s ≤ q + 2 ∧ q = scanDown (fun x => !ltB x e[a]!) e s j) (fun q => [(0, .vref 0 0), (1, vI .i64 a), (4, cmpV), (12, vI .i64 s), (13, vI .i64 q)]) (fun q => [vecB nl e]) (fun _ => ⟨Nat.le_refl _, rfl, rfl⟩) ?_ ?_
  · refine awp_loop (n := 178) (α := Nat) (fun q => q ≤ j ∧ s ≤ q + 2 ∧ scanDown (fun x => !ltB x e[a]!) e s q = scanDown (fun x => !ltB x e[a]!) e s j) (fun q => [(0, .vref 0 0), (1, vI .i64 a), (4, cmpV), (12, vI .i64 s), (13, vI .i64 q)]) (fun q => [vecB nl e]) (fun q => q) j (fun _ => 0)
      ⟨by omega, by omega, rfl⟩ rfl ⟨rfl, rfl, rfl, rfl, rfl, trivial⟩ rfl (fun _ _ => rfl) (fun _ => ⟨Nat.le_refl _, rfl, rfl⟩) ?_
    rintro q ⟨q1, q2, q3⟩
    conv => whnf
    repeat (first | (refine rest_vc ?_; conv => whnf) | (refine ⟨by decide, ?_⟩; conv => whnf))
    refine hand_draw [] (fun _ r => r = vI .i64 (cmpB e[q]! e[a]!)) rfl (by kernel_rfl) rfl ?_
    conv => whnf
    repeat (first | (refine rest_vc ?_; conv => whnf) | (refine ⟨by decide, ?_⟩; conv => whnf))
    split <;> rename_i g <;> (conv => whnf) <;> repeat (first | (refine rest_vc ?_; conv => whnf) | (refine ⟨by decide, ?_⟩; conv => whnf))
    · have g := of_decide_eq_true g
      refine ⟨by simp only [encs_len, List.length_set] <;> omega, ?_⟩
      conv => whnf
      repeat (first | (refine rest_vc ?_; conv => whnf) | (refine ⟨by decide, ?_⟩; conv => whnf))
      refine ⟨by simp only [encs_len, List.length_set] <;> omega, fun p hp => ?_⟩
      simp only [Int.toNat_natCast] at hp
      obtain ⟨rfl, _⟩ := encs_get hp
      clear hp
      conv => whnf
      repeat (first | (refine rest_vc ?_; conv => whnf) | (refine ⟨by decide, ?_⟩; conv => whnf))
      refine ⟨by simp only [encs_len, List.length_set] <;> omega, ?_⟩
      conv => whnf
      repeat (first | (refine rest_vc ?_; conv => whnf) | (refine ⟨by decide, ?_⟩; conv => whnf))
      refine ⟨by simp only [encs_len, List.length_set] <;> omega, fun p hp => ?_⟩
      simp only [Int.toNat_natCast] at hp
      obtain ⟨rfl, _⟩ := encs_get hp
      clear hp
      conv => whnf
      repeat (first | (refine rest_vc ?_; conv => whnf) | (refine ⟨by decide, ?_⟩; conv => whnf))
      refine CallIn.dto (compare_ok _ _ _ _) (k := ?_)
      conv => whnf
      repeat (first | (refine rest_vc ?_; conv => whnf) | (refine ⟨by decide, ?_⟩; conv => whnf))
      obtain ⟨c, hc⟩ : ∃ c, c = decide (cmpI e[q]!.2 e[a]!.2 < 0) := ⟨_, rfl⟩
      rw [← hc]
      have hlt := lt_cmp hc
      cases c
      · conv => whnf
        repeat (first | (refine rest_vc ?_; conv => whnf) | (refine ⟨by decide, ?_⟩; conv => whnf))
        exact ⟨q - 1, fun _ => 0, ⟨by omega, by omega, by rw [← q3]; exact (sdn_go (fun x => !ltB x e[a]!) (by omega) (by omega) (by show (!ltB e[q]! e[a]!) = true; first | exact hlt | (rw [hlt]; rfl))).symm⟩, by omega, rfl, ⟨rfl, rfl, rfl, rfl, congrArg (vI .i64) (pred64 (by omega) (by omega)), trivial⟩, rfl, fun _ _ => rfl⟩
      · conv => whnf
        repeat (first | (refine rest_vc ?_; conv => whnf) | (refine ⟨by decide, ?_⟩; conv => whnf))
        exact ⟨q, fun _ => 0, ⟨by omega, by omega, by rw [← q3]; exact (sdn_stop (fun x => !ltB x e[a]!) (fun _ => (by show (!ltB e[q]! e[a]!) = false; first | exact hlt | (rw [hlt]; rfl)))).symm⟩, rfl, ⟨rfl, rfl, rfl, rfl, rfl, trivial⟩, rfl, fun _ _ => rfl⟩
    · have g := of_decide_eq_false g
      exact ⟨q, fun _ => 0, ⟨by omega, by omega, by rw [← q3]; exact (sdn_stop (fun x => !ltB x e[a]!) (fun h => by omega)).symm⟩, rfl, ⟨rfl, rfl, rfl, rfl, rfl, trivial⟩, rfl, fun _ _ => rfl⟩
  rintro t ⟨t1, t2, t3⟩
  have hst := part_step s3 t3
  rw [h5] at hst
  conv => whnf
  repeat (first | (refine rest_vc ?_; conv => whnf) | (refine ⟨by decide, ?_⟩; conv => whnf))
  split <;> rename_i h <;> (conv => whnf) <;> repeat (first | (refine rest_vc ?_; conv => whnf) | (refine ⟨by decide, ?_⟩; conv => whnf))
  · have h := of_decide_eq_true h
    rw [if_pos (by omega)] at hst
    rw [hst] at hR
    rw [hR]
    refine hand_draw [13, 15] (fun _ _ => True) rfl (by kernel_rfl) rfl ?_
    conv => whnf
    repeat (first | (refine rest_vc ?_; conv => whnf) | (refine ⟨by decide, ?_⟩; conv => whnf))
    refine ⟨by simp only [encs_len, List.length_set] <;> omega, ?_⟩
    conv => whnf
    repeat (first | (refine rest_vc ?_; conv => whnf) | (refine ⟨by decide, ?_⟩; conv => whnf))
    refine ⟨by simp only [encs_len, List.length_set] <;> omega, fun p hp => ?_⟩
    simp only [Int.toNat_natCast] at hp
    obtain ⟨rfl, _⟩ := encs_get hp
    clear hp
    conv => whnf
    repeat (first | (refine rest_vc ?_; conv => whnf) | (refine ⟨by decide, ?_⟩; conv => whnf))
    refine ⟨by simp only [encs_len, List.length_set] <;> omega, ?_⟩
    conv => whnf
    repeat (first | (refine rest_vc ?_; conv => whnf) | (refine ⟨by decide, ?_⟩; conv => whnf))
    refine ⟨by simp only [encs_len, List.length_set] <;> omega, fun p hp => ?_⟩
    simp only [Int.toNat_natCast] at hp
    obtain ⟨rfl, _⟩ := encs_get hp
    clear hp
    conv => whnf
    repeat (first | (refine rest_vc ?_; conv => whnf) | (refine ⟨by decide, ?_⟩; conv => whnf))
    refine ⟨by simp only [encs_len, List.length_set] <;> omega, ?_⟩
    conv => whnf
    repeat (first | (refine rest_vc ?_; conv => whnf) | (refine ⟨by decide, ?_⟩; conv => whnf))
    refine ⟨by simp only [encs_len, List.length_set] <;> omega, fun p hp => ?_⟩
    first | obtain ⟨_, rfl⟩ := encs_any0 hp | obtain ⟨_, rfl⟩ := encs_any hp
    clear hp
    conv => whnf
    repeat (first | (refine rest_vc ?_; conv => whnf) | (refine ⟨by decide, ?_⟩; conv => whnf))
    refine ⟨by simp only [encs_len, List.length_set] <;> omega, ?_⟩
    conv => whnf
    repeat (first | (refine rest_vc ?_; conv => whnf) | (refine ⟨by decide, ?_⟩; conv => whnf))
    refine ⟨by simp only [encs_len, List.length_set] <;> omega, fun p hp => ?_⟩
    first | obtain ⟨_, rfl⟩ := encs_any0 hp | obtain ⟨_, rfl⟩ := encs_any hp
    clear hp
    conv => whnf
    repeat (first | (refine rest_vc ?_; conv => whnf) | (refine ⟨by decide, ?_⟩; conv => whnf))
    exact ⟨rfl, congrArg (fun l => [Ob.vec 0 22 1 nl l]) (encs_swp e t a)⟩
  · have h := of_decide_eq_false h
    rw [if_neg (by omega), if_pos (by omega)] at hst
    refine hand_draw [13, 15] (fun _ _ => True) rfl (by kernel_rfl) rfl ?_
    conv => whnf
    repeat (first | (refine rest_vc ?_; conv => whnf) | (refine ⟨by decide, ?_⟩; conv => whnf))
    refine ⟨by simp only [encs_len, List.length_set] <;> omega, ?_⟩
    conv => whnf
    repeat (first | (refine rest_vc ?_; conv => whnf) | (refine ⟨by decide, ?_⟩; conv => whnf))
    refine ⟨by simp only [encs_len, List.length_set] <;> omega, fun p hp => ?_⟩
    simp only [Int.toNat_natCast] at hp
    obtain ⟨rfl, _⟩ := encs_get hp
    clear hp
    conv => whnf
    repeat (first | (refine rest_vc ?_; conv => whnf) | (refine ⟨by decide, ?_⟩; conv => whnf))
    refine ⟨by simp only [encs_len, List.length_set] <;> omega, ?_⟩
    conv => whnf
    repeat (first | (refine rest_vc ?_; conv => whnf) | (refine ⟨by decide, ?_⟩; conv => whnf))
    refine ⟨by simp only [encs_len, List.length_set] <;> omega, fun p hp => ?_⟩
    simp only [Int.toNat_natCast] at hp
    obtain ⟨rfl, _⟩ := encs_get hp
    clear hp
    conv => whnf
    repeat (first | (refine rest_vc ?_; conv => whnf) | (refine ⟨by decide, ?_⟩; conv => whnf))
    refine ⟨by simp only [encs_len, List.length_set] <;> omega, ?_⟩
    conv => whnf
    repeat (first | (refine rest_vc ?_; conv => whnf) | (refine ⟨by decide, ?_⟩; conv => whnf))
    refine ⟨by simp only [encs_len, List.length_set] <;> omega, fun p hp => ?_⟩
    first | obtain ⟨_, rfl⟩ := encs_any0 hp | obtain ⟨_, rfl⟩ := encs_any hp
    clear hp
    conv => whnf
    repeat (first | (refine rest_vc ?_; conv => whnf) | (refine ⟨by decide, ?_⟩; conv => whnf))
    refine ⟨by simp only [encs_len, List.length_set] <;> omega, ?_⟩
    conv => whnf
    repeat (first | (refine rest_vc ?_; conv => whnf) | (refine ⟨by decide, ?_⟩; conv => whnf))
    refine ⟨by simp only [encs_len, List.length_set] <;> omega, fun p hp => ?_⟩
    first | obtain ⟨_, rfl⟩ := encs_any0 hp | obtain ⟨_, rfl⟩ := encs_any hp
    clear hp
    conv => whnf
    repeat (first | (refine rest_vc ?_; conv => whnf) | (refine ⟨by decide, ?_⟩; conv => whnf))
    exact ⟨s + 1, t - 1, swp e s t, fun _ => 0, ⟨by omega, by omega, by omega, by rw [swp_sz]; exact h4, hst.symm⟩, by omega, rfl, ⟨rfl, rfl, rfl, congrArg (vI .i64) (succ64 (by omega)), congrArg (vI .i64) (pred64 (by omega) (by omega)), trivial⟩, congrArg (fun l => [Ob.vec 0 22 1 nl l]) (encs_swp e s t), fun _ _ => rfl⟩
end Go.Proofs.Ytlnmkolppgkglaa
