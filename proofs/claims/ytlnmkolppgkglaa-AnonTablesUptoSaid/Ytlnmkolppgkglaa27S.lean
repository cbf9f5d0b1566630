/- law27: runs that are nearly in order. -/
import Derived.Test.Ytlnmkolppgkglaa27R
set_option linter.all false
set_option maxHeartbeats 4000000
set_option maxRecDepth 100000
namespace Go.Proofs.Ytlnmkolppgkglaa
open Go Go.RowKit Go.Sy Go.Proofs Go.Sort

theorem scan_go (lt : BV → BV → Bool) {d : Array BV} {b i : Nat} (h : i < b) (h1 : lt d[i]! d[i - 1]! = false) : scanSorted lt d b i = scanSorted lt d b (i + 1) := by
  conv => lhs; unfold scanSorted
  rw [if_pos (by simp [h, h1])]
theorem scan_stop (lt : BV → BV → Bool) {d : Array BV} {b i : Nat} (h : i < b → lt d[i]! d[i - 1]! = true) : scanSorted lt d b i = i := by
  unfold scanSorted
  rw [if_neg]
  intro h'
  simp at h'
  have := h h'.1
  rw [h'.2] at this
  cases this
theorem down_go (lt : BV → BV → Bool) {d : Array BV} {m : Nat} (h : 0 < m) : shiftDown lt m d = if lt d[m]! d[m - 1]! then shiftDown lt (m - 1) (swp d m (m - 1)) else d := by
  obtain ⟨m, rfl⟩ : ∃ j, m = j + 1 := ⟨m - 1, by omega⟩
  conv => lhs; unfold shiftDown
  simp only [Nat.add_sub_cancel]
  cases lt d[m + 1]! d[m]! <;> rfl
theorem up_go (lt : BV → BV → Bool) {d : Array BV} {b j : Nat} (h : j < b) : shiftUp lt b j d = if lt d[j]! d[j - 1]! then shiftUp lt b (j + 1) (swp d j (j - 1)) else d := by
  conv => lhs; unfold shiftUp
  rw [if_pos h]
  cases lt d[j]! d[j - 1]! <;> rfl
theorem up_stop (lt : BV → BV → Bool) {d : Array BV} {b j : Nat} (h : ¬ j < b) : shiftUp lt b j d = d := by
  unfold shiftUp
  rw [if_neg h]

theorem sub64 {i j : Nat} (h : j ≤ i) (hi : i < 2 ^ 63) : IntKind.i64.wrap ((i : Int) - (j : Int)) = ((i - j : Nat) : Int) := by rw [w64 (by omega) (by omega)]; omega

set_option maxHeartbeats 4000000 in
theorem partial_ok (nl : Bool) (d : Array BV) (a b : Nat) (hab : a < b) (hb : b ≤ d.size) (hd : d.size < 2 ^ 60) :
    CallOk Try.prog 68 [.vref 0 0, vI .i64 a, vI .i64 b, cmpV] [vecB nl d] fun r st' => r = vB (partialInsertionSort ltB d a b).2 ∧ st' = [vecB nl (partialInsertionSort ltB d a b).1] := by
  refine callOk_of false 1 Try.func68 rfl rfl (Nat.le_refl _) ?_
  conv => whnf
  repeat (first | (refine rest_vc ?_; conv => whnf) | (refine ⟨by decide, ?_⟩; conv => whnf))
  refine awp_loop3 (n := 141) (α := Nat) (β := Nat) (γ := Array BV) (fun j i e => j ≤ 5 ∧ a < i ∧ i ≤ b ∧ e.size = d.size ∧ partialIns ltB a b (5 - j) i e = partialInsertionSort ltB d a b) (fun j i e => [(0, .vref 0 0), (1, vI .i64 a), (2, vI .i64 b), (3, cmpV), (9, vI .i64 i), (10, vI .i64 j)]) (fun j i e => [vecB nl e]) (fun j _ _ => 5 - j) 0 (a + 1) d (fun _ => 0)
    ⟨by omega, by omega, by omega, rfl, rfl⟩ rfl ⟨rfl, rfl, rfl, rfl, congrArg (vI .i64) (succ64 (by omega)), rfl, trivial⟩ rfl (fun _ _ => rfl) (fun _ _ _ => ⟨Nat.le_refl _, rfl, rfl⟩) ?_
  rintro j i e ⟨h1, h2, h3, h4, h5⟩
  conv => whnf
  repeat (first | (refine rest_vc ?_; conv => whnf) | (refine ⟨by decide, ?_⟩; conv => whnf))
  split <;> rename_i h <;> (conv => whnf) <;> repeat (first | (refine rest_vc ?_; conv => whnf) | (refine ⟨by decide, ?_⟩; conv => whnf))
  · have h := of_decide_eq_true h
    obtain ⟨s, hs⟩ : ∃ s, 5 - j = s + 1 := ⟨4 - j, by omega⟩
    rw [hs] at h5
    refine awp_loop (n := 141) (α := Nat) (fun i' => i ≤ i' ∧ i' ≤ b ∧ scanSorted ltB e b i' = scanSorted ltB e b i) (fun i' => [(0, .vref 0 0), (1, vI .i64 a), (2, vI .i64 b), (3, cmpV), (9, vI .i64 i'), (10, vI .i64 j)]) (fun i' => [vecB nl e]) (fun i' => b - i') i (fun _ => 0)
      ⟨by omega, by omega, rfl⟩ rfl ⟨rfl, rfl, rfl, rfl, rfl, rfl, trivial⟩ rfl (fun _ _ => rfl) (fun _ => ⟨Nat.le_refl _, rfl, rfl⟩) ?_
    rintro i' ⟨k1, k2, k3⟩
    have ei := pred64 (j := i') (by omega) (by omega)
    conv => whnf
    repeat (first | (refine rest_vc ?_; conv => whnf) | (refine ⟨by decide, ?_⟩; conv => whnf))
    refine hand_draw [] (fun _ r => r = vI .i64 (cmpB e[i']! e[i' - 1]!)) rfl (by kernel_rfl) rfl ?_
    conv => whnf
    repeat (first | (refine rest_vc ?_; conv => whnf) | (refine ⟨by decide, ?_⟩; conv => whnf))
    split <;> rename_i g <;> (conv => whnf) <;> repeat (first | (refine rest_vc ?_; conv => whnf) | (refine ⟨by decide, ?_⟩; conv => whnf))
    · have g := of_decide_eq_true g
      refine ⟨by simp only [encs_len, List.length_set] <;> omega, ?_⟩
      conv => whnf
      repeat (first | (refine rest_vc ?_; conv => whnf) | (refine ⟨by decide, ?_⟩; conv => whnf))
      refine ⟨by simp only [encs_len, List.length_set] <;> omega, fun p hp => ?_⟩
      simp only [Int.toNat_natCast] at hp
      obtain ⟨rfl, _⟩ := encs_get hp
      clear hp
      conv => whnf
      repeat (first | (refine rest_vc ?_; conv => whnf) | (refine ⟨by decide, ?_⟩; conv => whnf))
      refine ⟨by simp only [encs_len, List.length_set, ei] <;> omega, ?_⟩
      conv => whnf
      repeat (first | (refine rest_vc ?_; conv => whnf) | (refine ⟨by decide, ?_⟩; conv => whnf))
      refine ⟨by simp only [encs_len, List.length_set, ei] <;> omega, fun p hp => ?_⟩
      simp only [ei, Int.toNat_natCast] at hp
      obtain ⟨rfl, _⟩ := encs_get hp
      clear hp
      conv => whnf
      repeat (first | (refine rest_vc ?_; conv => whnf) | (refine ⟨by decide, ?_⟩; conv => whnf))
      refine CallIn.dto (compare_ok _ _ _ _) (k := ?_)
      conv => whnf
      repeat (first | (refine rest_vc ?_; conv => whnf) | (refine ⟨by decide, ?_⟩; conv => whnf))
      obtain ⟨c, hc⟩ : ∃ c, c = decide (cmpI e[i']!.2 e[i' - 1]!.2 < 0) := ⟨_, rfl⟩
      rw [← hc]
      have hlt := lt_cmp hc
      cases c
      · conv => whnf
        repeat (first | (refine rest_vc ?_; conv => whnf) | (refine ⟨by decide, ?_⟩; conv => whnf))
        exact ⟨i' + 1, fun _ => 0, ⟨by omega, by omega, by rw [← k3, scan_go _ (i := i') (by omega) hlt]⟩, by omega, rfl, ⟨rfl, rfl, rfl, rfl, congrArg (vI .i64) (succ64 (by omega)), rfl, trivial⟩, rfl, fun _ _ => rfl⟩
      · conv => whnf
        repeat (first | (refine rest_vc ?_; conv => whnf) | (refine ⟨by decide, ?_⟩; conv => whnf))
        have hsc : scanSorted ltB e b i = i' := by rw [← k3]; exact scan_stop _ (fun _ => hlt)
        split <;> rename_i q <;> (conv => whnf) <;> repeat (first | (refine rest_vc ?_; conv => whnf) | (refine ⟨by decide, ?_⟩; conv => whnf))
        · have q := of_decide_eq_true q
          omega
        have hq : i' < b := by omega
        clear q
        split <;> rename_i q <;> (conv => whnf) <;> repeat (first | (refine rest_vc ?_; conv => whnf) | (refine ⟨by decide, ?_⟩; conv => whnf))
        · have q := of_decide_eq_true q
          have eb := sub64 (i := b) (j := a) (by omega) (by omega)
          rw [eb] at q
          have e5 : partialInsertionSort ltB d a b = (e, false) := by
            rw [← h5]
            unfold partialIns
            simp only [hsc]
            rw [if_neg (by omega), if_pos (by omega)]
          rw [e5]
          exact ⟨rfl, rfl⟩
        have q := of_decide_eq_false q
        have eb := sub64 (i := b) (j := a) (by omega) (by omega)
        rw [eb] at q
        have hR : partialInsertionSort ltB d a b = partialIns ltB a b s i' (if b - i' ≥ 2 then shiftUp ltB b (i' + 1) (if i' - a ≥ 2 then shiftDown ltB (i' - 1) (swp e i' (i' - 1)) else swp e i' (i' - 1)) else (if i' - a ≥ 2 then shiftDown ltB (i' - 1) (swp e i' (i' - 1)) else swp e i' (i' - 1))) := by
          rw [← h5]
          conv => lhs; unfold partialIns
          simp only [hsc]
          rw [if_neg (by omega), if_neg (by omega)]
        clear h5 hsc hc hlt k3
        have hjs : s = 5 - (j + 1) := by omega
        refine hand_draw [15, 17] (fun _ _ => True) rfl (by kernel_rfl) rfl ?_
        conv => whnf
        repeat (first | (refine rest_vc ?_; conv => whnf) | (refine ⟨by decide, ?_⟩; conv => whnf))
        refine ⟨by simp only [encs_len, List.length_set, ei] <;> omega, ?_⟩
        conv => whnf
        repeat (first | (refine rest_vc ?_; conv => whnf) | (refine ⟨by decide, ?_⟩; conv => whnf))
        refine ⟨by simp only [encs_len, List.length_set, ei] <;> omega, fun p hp => ?_⟩
        simp only [ei, Int.toNat_natCast] at hp
        obtain ⟨rfl, _⟩ := encs_get hp
        clear hp
        conv => whnf
        repeat (first | (refine rest_vc ?_; conv => whnf) | (refine ⟨by decide, ?_⟩; conv => whnf))
        refine ⟨by simp only [encs_len, List.length_set, ei] <;> omega, ?_⟩
        conv => whnf
        repeat (first | (refine rest_vc ?_; conv => whnf) | (refine ⟨by decide, ?_⟩; conv => whnf))
        refine ⟨by simp only [encs_len, List.length_set, ei] <;> omega, fun p hp => ?_⟩
        simp only [ei, Int.toNat_natCast] at hp
        obtain ⟨rfl, _⟩ := encs_get hp
        clear hp
        conv => whnf
        repeat (first | (refine rest_vc ?_; conv => whnf) | (refine ⟨by decide, ?_⟩; conv => whnf))
        refine ⟨by simp only [encs_len, List.length_set, ei] <;> omega, ?_⟩
        conv => whnf
        repeat (first | (refine rest_vc ?_; conv => whnf) | (refine ⟨by decide, ?_⟩; conv => whnf))
        refine ⟨by simp only [encs_len, List.length_set, ei] <;> omega, fun p hp => ?_⟩
        first | obtain ⟨_, rfl⟩ := encs_any0 hp | obtain ⟨_, rfl⟩ := encs_any hp
        clear hp
        conv => whnf
        repeat (first | (refine rest_vc ?_; conv => whnf) | (refine ⟨by decide, ?_⟩; conv => whnf))
        refine ⟨by simp only [encs_len, List.length_set, ei] <;> omega, ?_⟩
        conv => whnf
        repeat (first | (refine rest_vc ?_; conv => whnf) | (refine ⟨by decide, ?_⟩; conv => whnf))
        refine ⟨by simp only [encs_len, List.length_set, ei] <;> omega, fun p hp => ?_⟩
        first | obtain ⟨_, rfl⟩ := encs_any0 hp | obtain ⟨_, rfl⟩ := encs_any hp
        clear hp
        conv => whnf
        repeat (refine ⟨by decide, ?_⟩; conv => whnf)
        obtain ⟨e1, he1⟩ : ∃ e1, e1 = swp e i' (i' - 1) := ⟨_, rfl⟩
        rw [← he1] at hR
        have z1 : e1.size = d.size := by rw [he1, swp_sz]; exact h4
        refine rest_st (st' := [vecB nl e1]) (congrArg (fun l => [Ob.vec 0 22 1 nl l]) ?_) ?_
        · show ((encs e).set _ _).set _ _ = _
          rw [ei, he1]
          exact encs_swp e i' (i' - 1)
        have es := sub64 (i := i') (j := a) (by omega) (by omega)
        have es2 := sub64 (i := b) (j := i') (by omega) (by omega)
        refine rest_join (α := Array BV) 141 (fun e2 => e2.size = d.size ∧ e2 = if i' - a ≥ 2 then shiftDown ltB (i' - 1) e1 else e1) (fun _ => [(0, .vref 0 0), (1, vI .i64 a), (2, vI .i64 b), (3, cmpV), (9, vI .i64 i'), (10, vI .i64 j)]) (fun e2 => [vecB nl e2]) (fun _ => ⟨Nat.le_refl _, rfl, rfl⟩) ?_ ?_
        · conv => whnf
          repeat (first | (refine rest_vc ?_; conv => whnf) | (refine ⟨by decide, ?_⟩; conv => whnf))
          split <;> rename_i q2 <;> (conv => whnf) <;> repeat (first | (refine rest_vc ?_; conv => whnf) | (refine ⟨by decide, ?_⟩; conv => whnf))
          · have q2 := of_decide_eq_true q2
            rw [es] at q2
            refine awp_loop2 (n := 141) (α := Nat) (β := Array BV) (fun m e' => m ≤ i' - 1 ∧ e'.size = d.size ∧ shiftDown ltB m e' = shiftDown ltB (i' - 1) e1) (fun m e' => [(0, .vref 0 0), (1, vI .i64 a), (2, vI .i64 b), (3, cmpV), (9, vI .i64 i'), (10, vI .i64 j), (11, vI .i64 m)]) (fun _ e' => [vecB nl e']) (fun m _ => m) (i' - 1) e1 (fun _ => 0)
              ⟨by omega, z1, rfl⟩ rfl ⟨rfl, rfl, rfl, rfl, rfl, rfl, congrArg (vI .i64) ei, trivial⟩ rfl (fun _ _ => rfl) (fun _ _ => ⟨Nat.le_refl _, rfl, rfl⟩) ?_
            rintro m e' ⟨m1, m2, m3⟩
            conv => whnf
            repeat (first | (refine rest_vc ?_; conv => whnf) | (refine ⟨by decide, ?_⟩; conv => whnf))
            split <;> rename_i u <;> (conv => whnf) <;> repeat (first | (refine rest_vc ?_; conv => whnf) | (refine ⟨by decide, ?_⟩; conv => whnf))
            · have u := of_decide_eq_true u
              have em := pred64 (j := m) (by omega) (by omega)
              refine hand_draw [] (fun _ r => r = vI .i64 (cmpB e'[m]! e'[m - 1]!)) rfl (by kernel_rfl) rfl ?_
              conv => whnf
              repeat (first | (refine rest_vc ?_; conv => whnf) | (refine ⟨by decide, ?_⟩; conv => whnf))
              refine ⟨by simp only [encs_len, List.length_set] <;> omega, ?_⟩
              conv => whnf
              repeat (first | (refine rest_vc ?_; conv => whnf) | (refine ⟨by decide, ?_⟩; conv => whnf))
              refine ⟨by simp only [encs_len, List.length_set] <;> omega, fun p hp => ?_⟩
              simp only [Int.toNat_natCast] at hp
              obtain ⟨rfl, _⟩ := encs_get hp
              clear hp
              conv => whnf
              repeat (first | (refine rest_vc ?_; conv => whnf) | (refine ⟨by decide, ?_⟩; conv => whnf))
              refine ⟨by simp only [encs_len, List.length_set, em] <;> omega, ?_⟩
              conv => whnf
              repeat (first | (refine rest_vc ?_; conv => whnf) | (refine ⟨by decide, ?_⟩; conv => whnf))
              refine ⟨by simp only [encs_len, List.length_set, em] <;> omega, fun p hp => ?_⟩
              simp only [em, Int.toNat_natCast] at hp
              obtain ⟨rfl, _⟩ := encs_get hp
              clear hp
              conv => whnf
              repeat (first | (refine rest_vc ?_; conv => whnf) | (refine ⟨by decide, ?_⟩; conv => whnf))
              refine CallIn.dto (compare_ok _ _ _ _) (k := ?_)
              conv => whnf
              repeat (first | (refine rest_vc ?_; conv => whnf) | (refine ⟨by decide, ?_⟩; conv => whnf))
              obtain ⟨c, hc⟩ : ∃ c, c = decide (cmpI e'[m]!.2 e'[m - 1]!.2 < 0) := ⟨_, rfl⟩
              rw [← hc]
              have hlt := lt_cmp hc
              have hdn := down_go ltB (d := e') (m := m) (by omega)
              rw [hlt, m3] at hdn
              cases c
              · conv => whnf
                repeat (first | (refine rest_vc ?_; conv => whnf) | (refine ⟨by decide, ?_⟩; conv => whnf))
                exact ⟨e', fun _ => 0, ⟨m2, by rw [if_pos (by omega)]; exact hdn.symm⟩, rfl, ⟨rfl, rfl, rfl, rfl, rfl, rfl, trivial⟩, rfl, fun _ _ => rfl⟩
              · conv => whnf
                repeat (first | (refine rest_vc ?_; conv => whnf) | (refine ⟨by decide, ?_⟩; conv => whnf))
                refine hand_draw [15, 17] (fun _ _ => True) rfl (by kernel_rfl) rfl ?_
                conv => whnf
                repeat (first | (refine rest_vc ?_; conv => whnf) | (refine ⟨by decide, ?_⟩; conv => whnf))
                refine ⟨by simp only [encs_len, List.length_set, em] <;> omega, ?_⟩
                conv => whnf
                repeat (first | (refine rest_vc ?_; conv => whnf) | (refine ⟨by decide, ?_⟩; conv => whnf))
                refine ⟨by simp only [encs_len, List.length_set, em] <;> omega, fun p hp => ?_⟩
                simp only [em, Int.toNat_natCast] at hp
                obtain ⟨rfl, _⟩ := encs_get hp
                clear hp
                conv => whnf
                repeat (first | (refine rest_vc ?_; conv => whnf) | (refine ⟨by decide, ?_⟩; conv => whnf))
                refine ⟨by simp only [encs_len, List.length_set, em] <;> omega, ?_⟩
                conv => whnf
                repeat (first | (refine rest_vc ?_; conv => whnf) | (refine ⟨by decide, ?_⟩; conv => whnf))
                refine ⟨by simp only [encs_len, List.length_set, em] <;> omega, fun p hp => ?_⟩
                simp only [em, Int.toNat_natCast] at hp
                obtain ⟨rfl, _⟩ := encs_get hp
                clear hp
                conv => whnf
                repeat (first | (refine rest_vc ?_; conv => whnf) | (refine ⟨by decide, ?_⟩; conv => whnf))
                refine ⟨by simp only [encs_len, List.length_set, em] <;> omega, ?_⟩
                conv => whnf
                repeat (first | (refine rest_vc ?_; conv => whnf) | (refine ⟨by decide, ?_⟩; conv => whnf))
                refine ⟨by simp only [encs_len, List.length_set, em] <;> omega, fun p hp => ?_⟩
                first | obtain ⟨_, rfl⟩ := encs_any0 hp | obtain ⟨_, rfl⟩ := encs_any hp
                clear hp
                conv => whnf
                repeat (first | (refine rest_vc ?_; conv => whnf) | (refine ⟨by decide, ?_⟩; conv => whnf))
                refine ⟨by simp only [encs_len, List.length_set, em] <;> omega, ?_⟩
                conv => whnf
                repeat (first | (refine rest_vc ?_; conv => whnf) | (refine ⟨by decide, ?_⟩; conv => whnf))
                refine ⟨by simp only [encs_len, List.length_set, em] <;> omega, fun p hp => ?_⟩
                first | obtain ⟨_, rfl⟩ := encs_any0 hp | obtain ⟨_, rfl⟩ := encs_any hp
                clear hp
                conv => whnf
                repeat (first | (refine rest_vc ?_; conv => whnf) | (refine ⟨by decide, ?_⟩; conv => whnf))
                refine ⟨m - 1, swp e' m (m - 1), fun _ => 0, ⟨by omega, by rw [swp_sz]; exact m2, hdn.symm⟩, by omega, rfl, ⟨rfl, rfl, rfl, rfl, rfl, rfl, congrArg (vI .i64) em, trivial⟩, congrArg (fun l => [Ob.vec 0 22 1 nl l]) ?_, fun _ _ => rfl⟩
                show ((encs e').set _ _).set _ _ = _
                rw [em]
                exact encs_swp e' m (m - 1)
            · have u := of_decide_eq_false u
              have hm0 : m = 0 := by omega
              subst hm0
              exact ⟨e', fun _ => 0, ⟨m2, by rw [if_pos (by omega)]; exact m3⟩, rfl, ⟨rfl, rfl, rfl, rfl, rfl, rfl, trivial⟩, rfl, fun _ _ => rfl⟩
          · have q2 := of_decide_eq_false q2
            rw [es] at q2
            exact ⟨e1, fun _ => 0, ⟨z1, by rw [if_neg (by omega)]⟩, rfl, ⟨rfl, rfl, rfl, rfl, rfl, rfl, trivial⟩, rfl, fun _ _ => rfl⟩
        rintro e2 ⟨z2, he2⟩
        rw [← he2] at hR
        refine rest_vc ?_
        conv => whnf
        repeat (first | (refine rest_vc ?_; conv => whnf) | (refine ⟨by decide, ?_⟩; conv => whnf))
        split <;> rename_i q3 <;> (conv => whnf) <;> repeat (first | (refine rest_vc ?_; conv => whnf) | (refine ⟨by decide, ?_⟩; conv => whnf))
        · have q3 := of_decide_eq_true q3
          rw [es2] at q3
          rw [if_pos (by omega)] at hR
          refine awp_loop2 (n := 141) (α := Nat) (β := Array BV) (fun m e' => i' < m ∧ m ≤ b ∧ e'.size = d.size ∧ shiftUp ltB b m e' = shiftUp ltB b (i' + 1) e2) (fun m e' => [(0, .vref 0 0), (1, vI .i64 a), (2, vI .i64 b), (3, cmpV), (9, vI .i64 i'), (10, vI .i64 j), (12, vI .i64 m)]) (fun _ e' => [vecB nl e']) (fun m _ => b - m) (i' + 1) e2 (fun _ => 0)
            ⟨by omega, by omega, z2, rfl⟩ rfl ⟨rfl, rfl, rfl, rfl, rfl, rfl, congrArg (vI .i64) (succ64 (by omega)), trivial⟩ rfl (fun _ _ => rfl) (fun _ _ => ⟨Nat.le_refl _, rfl, rfl⟩) ?_
          rintro m e' ⟨m0, m1, m2, m3⟩
          have em := pred64 (j := m) (by omega) (by omega)
          conv => whnf
          repeat (first | (refine rest_vc ?_; conv => whnf) | (refine ⟨by decide, ?_⟩; conv => whnf))
          split <;> rename_i u <;> (conv => whnf) <;> repeat (first | (refine rest_vc ?_; conv => whnf) | (refine ⟨by decide, ?_⟩; conv => whnf))
          · have u := of_decide_eq_true u
            refine hand_draw [] (fun _ r => r = vI .i64 (cmpB e'[m]! e'[m - 1]!)) rfl (by kernel_rfl) rfl ?_
            conv => whnf
            repeat (first | (refine rest_vc ?_; conv => whnf) | (refine ⟨by decide, ?_⟩; conv => whnf))
            refine ⟨by simp only [encs_len, List.length_set] <;> omega, ?_⟩
            conv => whnf
            repeat (first | (refine rest_vc ?_; conv => whnf) | (refine ⟨by decide, ?_⟩; conv => whnf))
            refine ⟨by simp only [encs_len, List.length_set] <;> omega, fun p hp => ?_⟩
            simp only [Int.toNat_natCast] at hp
            obtain ⟨rfl, _⟩ := encs_get hp
            clear hp
            conv => whnf
            repeat (first | (refine rest_vc ?_; conv => whnf) | (refine ⟨by decide, ?_⟩; conv => whnf))
            refine ⟨by simp only [encs_len, List.length_set, em] <;> omega, ?_⟩
            conv => whnf
            repeat (first | (refine rest_vc ?_; conv => whnf) | (refine ⟨by decide, ?_⟩; conv => whnf))
            refine ⟨by simp only [encs_len, List.length_set, em] <;> omega, fun p hp => ?_⟩
            simp only [em, Int.toNat_natCast] at hp
            obtain ⟨rfl, _⟩ := encs_get hp
            clear hp
            conv => whnf
            repeat (first | (refine rest_vc ?_; conv => whnf) | (refine ⟨by decide, ?_⟩; conv => whnf))
            refine CallIn.dto (compare_ok _ _ _ _) (k := ?_)
            conv => whnf
            repeat (first | (refine rest_vc ?_; conv => whnf) | (refine ⟨by decide, ?_⟩; conv => whnf))
            obtain ⟨c, hc⟩ : ∃ c, c = decide (cmpI e'[m]!.2 e'[m - 1]!.2 < 0) := ⟨_, rfl⟩
            rw [← hc]
            have hlt := lt_cmp hc
            have hup := up_go ltB (d := e') (b := b) (j := m) (by omega)
            rw [hlt, m3] at hup
            cases c
            · conv => whnf
              repeat (first | (refine rest_vc ?_; conv => whnf) | (refine ⟨by decide, ?_⟩; conv => whnf))
              have hup : shiftUp ltB b (i' + 1) e2 = e' := hup
              exact ⟨j + 1, i', e', fun _ => 0, ⟨by omega, by omega, by omega, m2, by rw [hR, hup, hjs]⟩, by omega, rfl, ⟨rfl, rfl, rfl, rfl, rfl, congrArg (vI .i64) (succ64 (by omega)), trivial⟩, rfl, fun _ _ => rfl⟩
            · conv => whnf
              repeat (first | (refine rest_vc ?_; conv => whnf) | (refine ⟨by decide, ?_⟩; conv => whnf))
              refine hand_draw [15, 17] (fun _ _ => True) rfl (by kernel_rfl) rfl ?_
              conv => whnf
              repeat (first | (refine rest_vc ?_; conv => whnf) | (refine ⟨by decide, ?_⟩; conv => whnf))
              refine ⟨by simp only [encs_len, List.length_set, em] <;> omega, ?_⟩
              conv => whnf
              repeat (first | (refine rest_vc ?_; conv => whnf) | (refine ⟨by decide, ?_⟩; conv => whnf))
              refine ⟨by simp only [encs_len, List.length_set, em] <;> omega, fun p hp => ?_⟩
              simp only [em, Int.toNat_natCast] at hp
              obtain ⟨rfl, _⟩ := encs_get hp
              clear hp
              conv => whnf
              repeat (first | (refine rest_vc ?_; conv => whnf) | (refine ⟨by decide, ?_⟩; conv => whnf))
              refine ⟨by simp only [encs_len, List.length_set, em] <;> omega, ?_⟩
              conv => whnf
              repeat (first | (refine rest_vc ?_; conv => whnf) | (refine ⟨by decide, ?_⟩; conv => whnf))
              refine ⟨by simp only [encs_len, List.length_set, em] <;> omega, fun p hp => ?_⟩
              simp only [em, Int.toNat_natCast] at hp
              obtain ⟨rfl, _⟩ := encs_get hp
              clear hp
              conv => whnf
              repeat (first | (refine rest_vc ?_; conv => whnf) | (refine ⟨by decide, ?_⟩; conv => whnf))
              refine ⟨by simp only [encs_len, List.length_set, em] <;> omega, ?_⟩
              conv => whnf
              repeat (first | (refine rest_vc ?_; conv => whnf) | (refine ⟨by decide, ?_⟩; conv => whnf))
              refine ⟨by simp only [encs_len, List.length_set, em] <;> omega, fun p hp => ?_⟩
              first | obtain ⟨_, rfl⟩ := encs_any0 hp | obtain ⟨_, rfl⟩ := encs_any hp
              clear hp
              conv => whnf
              repeat (first | (refine rest_vc ?_; conv => whnf) | (refine ⟨by decide, ?_⟩; conv => whnf))
              refine ⟨by simp only [encs_len, List.length_set, em] <;> omega, ?_⟩
              conv => whnf
              repeat (first | (refine rest_vc ?_; conv => whnf) | (refine ⟨by decide, ?_⟩; conv => whnf))
              refine ⟨by simp only [encs_len, List.length_set, em] <;> omega, fun p hp => ?_⟩
              first | obtain ⟨_, rfl⟩ := encs_any0 hp | obtain ⟨_, rfl⟩ := encs_any hp
              clear hp
              conv => whnf
              repeat (first | (refine rest_vc ?_; conv => whnf) | (refine ⟨by decide, ?_⟩; conv => whnf))
              refine ⟨m + 1, swp e' m (m - 1), fun _ => 0, ⟨by omega, by omega, by rw [swp_sz]; exact m2, hup.symm⟩, by omega, rfl, ⟨rfl, rfl, rfl, rfl, rfl, rfl, congrArg (vI .i64) (succ64 (by omega)), trivial⟩, congrArg (fun l => [Ob.vec 0 22 1 nl l]) ?_, fun _ _ => rfl⟩
              show ((encs e').set _ _).set _ _ = _
              rw [em]
              exact encs_swp e' m (m - 1)
          · have u := of_decide_eq_false u
            have hup := up_stop ltB (d := e') (b := b) (j := m) (by omega)
            rw [m3] at hup
            exact ⟨j + 1, i', e', fun _ => 0, ⟨by omega, by omega, by omega, m2, by rw [hR, hup, hjs]⟩, by omega, rfl, ⟨rfl, rfl, rfl, rfl, rfl, congrArg (vI .i64) (succ64 (by omega)), trivial⟩, rfl, fun _ _ => rfl⟩
        · have q3 := of_decide_eq_false q3
          rw [es2] at q3
          rw [if_neg (by omega)] at hR
          exact ⟨j + 1, i', e2, fun _ => 0, ⟨by omega, by omega, by omega, z2, by rw [hR, hjs]⟩, by omega, rfl, ⟨rfl, rfl, rfl, rfl, rfl, congrArg (vI .i64) (succ64 (by omega)), trivial⟩, rfl, fun _ _ => rfl⟩
    · have g := of_decide_eq_false g
      have hib : i' = b := by omega
      subst hib
      have hsc : scanSorted ltB e i' i = i' := by rw [← k3]; exact scan_stop _ (fun h => by omega)
      split <;> rename_i q <;> (conv => whnf) <;> repeat (first | (refine rest_vc ?_; conv => whnf) | (refine ⟨by decide, ?_⟩; conv => whnf))
      · have e5 : partialInsertionSort ltB d a i' = (e, true) := by
          rw [← h5]
          unfold partialIns
          simp only [hsc]
          simp
        rw [e5]
        exact ⟨rfl, rfl⟩
      · exact absurd rfl (of_decide_eq_false q)
  · have h := of_decide_eq_false h
    have hj : j = 5 := by omega
    subst hj
    have h5 : (e, false) = partialInsertionSort ltB d a b := h5
    rw [← h5]
    exact ⟨rfl, rfl⟩
end Go.Proofs.Ytlnmkolppgkglaa
