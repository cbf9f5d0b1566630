/- law27: the sort's heap. -/
import Derived.Test.Ytlnmkolppgkglaa27P
set_option linter.all false
set_option maxHeartbeats 4000000
set_option maxRecDepth 100000
namespace Go.Proofs.Ytlnmkolppgkglaa
open Go Go.RowKit Go.Sy Go.Proofs Go.Sort

theorem sift_stop (lt : BV → BV → Bool) {hi first root : Nat} {d : Array BV} (h : 2 * root + 1 ≥ hi) : siftDown lt hi first root d = d := by
  unfold siftDown; rw [dif_pos h]
theorem sift_r0 (lt : BV → BV → Bool) {hi first root : Nat} {d : Array BV} (h : 2 * root + 1 + 1 < hi) (h1 : lt d[first + (2 * root + 1)]! d[first + (2 * root + 1) + 1]! = true) (h2 : lt d[first + root]! d[first + (2 * root + 1 + 1)]! = false) : siftDown lt hi first root d = d := by
  unfold siftDown
  rw [dif_neg (by omega), if_pos (by simp [h, h1]), if_pos (by rw [show 2 * root + 2 = 2 * root + 1 + 1 from rfl, h2]; rfl)]
theorem sift_r1 (lt : BV → BV → Bool) {hi first root : Nat} {d : Array BV} (h : 2 * root + 1 + 1 < hi) (h1 : lt d[first + (2 * root + 1)]! d[first + (2 * root + 1) + 1]! = true) (h2 : lt d[first + root]! d[first + (2 * root + 1 + 1)]! = true) :
    siftDown lt hi first root d = siftDown lt hi first (2 * root + 1 + 1) (swp d (first + root) (first + (2 * root + 1 + 1))) := by
  conv => lhs; unfold siftDown
  rw [dif_neg (by omega), if_pos (by simp [h, h1]), if_neg (by rw [show 2 * root + 2 = 2 * root + 1 + 1 from rfl, h2]; simp), dif_pos (by omega)]
theorem sift_l0 (lt : BV → BV → Bool) {hi first root : Nat} {d : Array BV} (h : 2 * root + 1 < hi) (h1 : 2 * root + 1 + 1 < hi → lt d[first + (2 * root + 1)]! d[first + (2 * root + 1) + 1]! = false) (h2 : lt d[first + root]! d[first + (2 * root + 1)]! = false) : siftDown lt hi first root d = d := by
  unfold siftDown
  rw [dif_neg (by omega), if_neg (by intro h'; simp at h'; have := h1 h'.1; simp [h'.2] at this), if_pos (by rw [h2]; rfl)]
theorem sift_l1 (lt : BV → BV → Bool) {hi first root : Nat} {d : Array BV} (h : 2 * root + 1 < hi) (h1 : 2 * root + 1 + 1 < hi → lt d[first + (2 * root + 1)]! d[first + (2 * root + 1) + 1]! = false) (h2 : lt d[first + root]! d[first + (2 * root + 1)]! = true) :
    siftDown lt hi first root d = siftDown lt hi first (2 * root + 1) (swp d (first + root) (first + (2 * root + 1))) := by
  conv => lhs; unfold siftDown
  rw [dif_neg (by omega), if_neg (by intro h'; simp at h'; have := h1 h'.1; simp [h'.2] at this), if_neg (by rw [h2]; simp)]

theorem add64 {i j : Nat} (h : i + j < 2 ^ 63) : IntKind.i64.wrap ((i : Int) + (j : Int)) = ((i + j : Nat) : Int) := by rw [w64 (by omega) (by omega)]; omega

theorem sift_ok (nl : Bool) (d : Array BV) (lo hi first : Nat) (hlo : lo ≤ hi) (hf : first + hi ≤ d.size) (hd : d.size < 2 ^ 60) :
    CallOk Try.prog 76 [.vref 0 0, vI .i64 lo, vI .i64 hi, vI .i64 first, cmpV] [vecB nl d] fun r st' => r = .tup [] ∧ st' = [vecB nl (siftDown ltB hi first lo d)] := by
  refine callOk_of false 1 Try.func76 rfl rfl (Nat.le_refl _) ?_
  conv => whnf
  repeat (first | (refine rest_vc ?_; conv => whnf) | (refine ⟨by decide, ?_⟩; conv => whnf))
  refine awp_loop2 (n := 82) (α := Nat) (β := Array BV) (fun root e => root ≤ hi ∧ e.size = d.size ∧ siftDown ltB hi first root e = siftDown ltB hi first lo d) (fun root e => [(0, .vref 0 0), (10, vI .i64 root), (2, vI .i64 hi), (3, vI .i64 first), (4, cmpV)]) (fun root e => [vecB nl e]) (fun root _ => hi - root) lo d (fun _ => 0)
    ⟨hlo, rfl, rfl⟩ rfl ⟨rfl, rfl, rfl, rfl, rfl, trivial⟩ rfl (fun _ _ => rfl) (fun _ _ => ⟨Nat.le_refl _, rfl, rfl⟩) ?_
  rintro root e ⟨h1, h3, h4⟩
  have c1 : IntKind.i64.wrap (IntKind.i64.wrap (2 * (root : Int)) + 1) = ((2 * root + 1 : Nat) : Int) := by rw [w64 (n := 2 * (root : Int)) (by omega) (by omega), w64 (by omega) (by omega)]; omega
  have c2 := succ64 (j := 2 * root + 1) (by omega)
  have f1 := add64 (i := first) (j := 2 * root + 1) (by omega)
  have f2 := succ64 (j := first + (2 * root + 1)) (by omega)
  have f3 := add64 (i := first) (j := root) (by omega)
  have f4 := add64 (i := first) (j := 2 * root + 1 + 1) (by omega)
  conv => whnf
  repeat (first | (refine rest_vc ?_; conv => whnf) | (refine ⟨by decide, ?_⟩; conv => whnf))
  split <;> rename_i h <;> (conv => whnf) <;> repeat (first | (refine rest_vc ?_; conv => whnf) | (refine ⟨by decide, ?_⟩; conv => whnf))
  · have h := of_decide_eq_true h
    rw [c1] at h
    refine ⟨rfl, congrArg (fun l => [vecB nl l]) ?_⟩
    rw [← h4, sift_stop _ (by omega)]
  have h := of_decide_eq_false h
  rw [c1] at h
  refine hand_draw [] (fun _ r => r = vI .i64 (cmpB e[first + (2 * root + 1)]! e[first + (2 * root + 1) + 1]!)) rfl (by kernel_rfl) rfl ?_
  conv => whnf
  repeat (first | (refine rest_vc ?_; conv => whnf) | (refine ⟨by decide, ?_⟩; conv => whnf))
  split <;> rename_i g <;> (conv => whnf) <;> repeat (first | (refine rest_vc ?_; conv => whnf) | (refine ⟨by decide, ?_⟩; conv => whnf))
  · have g := of_decide_eq_true g
    rw [c1, c2] at g
    refine ⟨by simp only [encs_len, List.length_set, c1, f1] <;> omega, ?_⟩
    conv => whnf
    repeat (first | (refine rest_vc ?_; conv => whnf) | (refine ⟨by decide, ?_⟩; conv => whnf))
    refine ⟨by simp only [encs_len, List.length_set, c1, f1] <;> omega, fun p hp => ?_⟩
    simp only [c1, f1, Int.toNat_natCast] at hp
    obtain ⟨rfl, _⟩ := encs_get hp
    clear hp
    conv => whnf
    repeat (first | (refine rest_vc ?_; conv => whnf) | (refine ⟨by decide, ?_⟩; conv => whnf))
    refine ⟨by simp only [encs_len, List.length_set, c1, f1, f2] <;> omega, ?_⟩
    conv => whnf
    repeat (first | (refine rest_vc ?_; conv => whnf) | (refine ⟨by decide, ?_⟩; conv => whnf))
    refine ⟨by simp only [encs_len, List.length_set, c1, f1, f2] <;> omega, fun p hp => ?_⟩
    simp only [c1, f1, f2, Int.toNat_natCast] at hp
    obtain ⟨rfl, _⟩ := encs_get hp
    clear hp
    conv => whnf
    repeat (first | (refine rest_vc ?_; conv => whnf) | (refine ⟨by decide, ?_⟩; conv => whnf))
    refine CallIn.dto (compare_ok _ _ _ _) (k := ?_)
    conv => whnf
    repeat (first | (refine rest_vc ?_; conv => whnf) | (refine ⟨by decide, ?_⟩; conv => whnf))
    obtain ⟨c, hc⟩ : ∃ c, c = decide (cmpI e[first + (2 * root + 1)]!.2 e[first + (2 * root + 1) + 1]!.2 < 0) := ⟨_, rfl⟩
    rw [← hc]
    have hl1 := lt_cmp hc
    cases c
    · conv => whnf
      repeat (first | (refine rest_vc ?_; conv => whnf) | (refine ⟨by decide, ?_⟩; conv => whnf))
      refine hand_draw [] (fun _ r => r = vI .i64 (cmpB e[first + root]! e[first + (2 * root + 1)]!)) rfl (by kernel_rfl) rfl ?_
      conv => whnf
      repeat (first | (refine rest_vc ?_; conv => whnf) | (refine ⟨by decide, ?_⟩; conv => whnf))
      refine ⟨by simp only [encs_len, List.length_set, f3] <;> omega, ?_⟩
      conv => whnf
      repeat (first | (refine rest_vc ?_; conv => whnf) | (refine ⟨by decide, ?_⟩; conv => whnf))
      refine ⟨by simp only [encs_len, List.length_set, f3] <;> omega, fun p hp => ?_⟩
      simp only [f3, Int.toNat_natCast] at hp
      obtain ⟨rfl, _⟩ := encs_get hp
      clear hp
      conv => whnf
      repeat (first | (refine rest_vc ?_; conv => whnf) | (refine ⟨by decide, ?_⟩; conv => whnf))
      refine ⟨by simp only [encs_len, List.length_set, c1, c2, f1] <;> omega, ?_⟩
      conv => whnf
      repeat (first | (refine rest_vc ?_; conv => whnf) | (refine ⟨by decide, ?_⟩; conv => whnf))
      refine ⟨by simp only [encs_len, List.length_set, c1, c2, f1] <;> omega, fun p hp => ?_⟩
      simp only [c1, c2, f1, Int.toNat_natCast] at hp
      obtain ⟨rfl, _⟩ := encs_get hp
      clear hp
      conv => whnf
      repeat (first | (refine rest_vc ?_; conv => whnf) | (refine ⟨by decide, ?_⟩; conv => whnf))
      refine CallIn.dto (compare_ok _ _ _ _) (k := ?_)
      conv => whnf
      repeat (first | (refine rest_vc ?_; conv => whnf) | (refine ⟨by decide, ?_⟩; conv => whnf))
      obtain ⟨c, hc⟩ : ∃ c, c = decide (cmpI e[first + root]!.2 e[first + (2 * root + 1)]!.2 < 0) := ⟨_, rfl⟩
      rw [← hc]
      have hl2 := lt_cmp hc
      cases c
      · conv => whnf
        repeat (first | (refine rest_vc ?_; conv => whnf) | (refine ⟨by decide, ?_⟩; conv => whnf))
        refine ⟨rfl, congrArg (fun l => [vecB nl l]) ?_⟩
        rw [← h4]
        exact (sift_l0 _ (by omega) (fun _ => hl1) hl2).symm
      · conv => whnf
        repeat (first | (refine rest_vc ?_; conv => whnf) | (refine ⟨by decide, ?_⟩; conv => whnf))
        refine hand_draw [21, 23] (fun _ _ => True) rfl (by kernel_rfl) rfl ?_
        conv => whnf
        repeat (first | (refine rest_vc ?_; conv => whnf) | (refine ⟨by decide, ?_⟩; conv => whnf))
        refine ⟨by simp only [encs_len, List.length_set, c1, c2, f3, f1] <;> omega, ?_⟩
        conv => whnf
        repeat (first | (refine rest_vc ?_; conv => whnf) | (refine ⟨by decide, ?_⟩; conv => whnf))
        refine ⟨by simp only [encs_len, List.length_set, c1, c2, f3, f1] <;> omega, fun p hp => ?_⟩
        simp only [c1, c2, f3, f1, Int.toNat_natCast] at hp
        obtain ⟨rfl, _⟩ := encs_get hp
        clear hp
        conv => whnf
        repeat (first | (refine rest_vc ?_; conv => whnf) | (refine ⟨by decide, ?_⟩; conv => whnf))
        refine ⟨by simp only [encs_len, List.length_set, c1, c2, f3, f1] <;> omega, ?_⟩
        conv => whnf
        repeat (first | (refine rest_vc ?_; conv => whnf) | (refine ⟨by decide, ?_⟩; conv => whnf))
        refine ⟨by simp only [encs_len, List.length_set, c1, c2, f3, f1] <;> omega, fun p hp => ?_⟩
        simp only [c1, c2, f3, f1, Int.toNat_natCast] at hp
        obtain ⟨rfl, _⟩ := encs_get hp
        clear hp
        conv => whnf
        repeat (first | (refine rest_vc ?_; conv => whnf) | (refine ⟨by decide, ?_⟩; conv => whnf))
        refine ⟨by simp only [encs_len, List.length_set, c1, c2, f3, f1] <;> omega, ?_⟩
        conv => whnf
        repeat (first | (refine rest_vc ?_; conv => whnf) | (refine ⟨by decide, ?_⟩; conv => whnf))
        refine ⟨by simp only [encs_len, List.length_set, c1, c2, f3, f1] <;> omega, fun p hp => ?_⟩
        first | obtain ⟨_, rfl⟩ := encs_any0 hp | obtain ⟨_, rfl⟩ := encs_any hp
        clear hp
        conv => whnf
        repeat (first | (refine rest_vc ?_; conv => whnf) | (refine ⟨by decide, ?_⟩; conv => whnf))
        refine ⟨by simp only [encs_len, List.length_set, c1, c2, f3, f1] <;> omega, ?_⟩
        conv => whnf
        repeat (first | (refine rest_vc ?_; conv => whnf) | (refine ⟨by decide, ?_⟩; conv => whnf))
        refine ⟨by simp only [encs_len, List.length_set, c1, c2, f3, f1] <;> omega, fun p hp => ?_⟩
        first | obtain ⟨_, rfl⟩ := encs_any0 hp | obtain ⟨_, rfl⟩ := encs_any hp
        clear hp
        conv => whnf
        repeat (first | (refine rest_vc ?_; conv => whnf) | (refine ⟨by decide, ?_⟩; conv => whnf))
        refine ⟨2 * root + 1, swp e (first + root) (first + (2 * root + 1)), fun _ => 0, ⟨by omega, by rw [swp_size]; exact h3, ?_⟩, by omega, rfl, ⟨rfl, congrArg (vI .i64) (by simp only [c1, c2]), rfl, rfl, rfl, trivial⟩, congrArg (fun l => [Ob.vec 0 22 1 nl l]) ?_, fun _ _ => rfl⟩
        · rw [← h4]
          exact (sift_l1 _ (by omega) (fun _ => hl1) hl2).symm
        · show ((encs e).set _ _).set _ _ = _
          simp only [c1, c2, f3, f1, Int.toNat_natCast]
          exact encs_swp e (first + root) (first + (2 * root + 1))
    · conv => whnf
      repeat (first | (refine rest_vc ?_; conv => whnf) | (refine ⟨by decide, ?_⟩; conv => whnf))
      refine hand_draw [] (fun _ r => r = vI .i64 (cmpB e[first + root]! e[first + (2 * root + 1 + 1)]!)) rfl (by kernel_rfl) rfl ?_
      conv => whnf
      repeat (first | (refine rest_vc ?_; conv => whnf) | (refine ⟨by decide, ?_⟩; conv => whnf))
      refine ⟨by simp only [encs_len, List.length_set, f3] <;> omega, ?_⟩
      conv => whnf
      repeat (first | (refine rest_vc ?_; conv => whnf) | (refine ⟨by decide, ?_⟩; conv => whnf))
      refine ⟨by simp only [encs_len, List.length_set, f3] <;> omega, fun p hp => ?_⟩
      simp only [f3, Int.toNat_natCast] at hp
      obtain ⟨rfl, _⟩ := encs_get hp
      clear hp
      conv => whnf
      repeat (first | (refine rest_vc ?_; conv => whnf) | (refine ⟨by decide, ?_⟩; conv => whnf))
      refine ⟨by simp only [encs_len, List.length_set, c1, c2, f4] <;> omega, ?_⟩
      conv => whnf
      repeat (first | (refine rest_vc ?_; conv => whnf) | (refine ⟨by decide, ?_⟩; conv => whnf))
      refine ⟨by simp only [encs_len, List.length_set, c1, c2, f4] <;> omega, fun p hp => ?_⟩
      simp only [c1, c2, f4, Int.toNat_natCast] at hp
      obtain ⟨rfl, _⟩ := encs_get hp
      clear hp
      conv => whnf
      repeat (first | (refine rest_vc ?_; conv => whnf) | (refine ⟨by decide, ?_⟩; conv => whnf))
      refine CallIn.dto (compare_ok _ _ _ _) (k := ?_)
      conv => whnf
      repeat (first | (refine rest_vc ?_; conv => whnf) | (refine ⟨by decide, ?_⟩; conv => whnf))
      obtain ⟨c, hc⟩ : ∃ c, c = decide (cmpI e[first + root]!.2 e[first + (2 * root + 1 + 1)]!.2 < 0) := ⟨_, rfl⟩
      rw [← hc]
      have hl2 := lt_cmp hc
      cases c
      · conv => whnf
        repeat (first | (refine rest_vc ?_; conv => whnf) | (refine ⟨by decide, ?_⟩; conv => whnf))
        refine ⟨rfl, congrArg (fun l => [vecB nl l]) ?_⟩
        rw [← h4]
        exact (sift_r0 _ (by omega) hl1 hl2).symm
      · conv => whnf
        repeat (first | (refine rest_vc ?_; conv => whnf) | (refine ⟨by decide, ?_⟩; conv => whnf))
        refine hand_draw [21, 23] (fun _ _ => True) rfl (by kernel_rfl) rfl ?_
        conv => whnf
        repeat (first | (refine rest_vc ?_; conv => whnf) | (refine ⟨by decide, ?_⟩; conv => whnf))
        refine ⟨by simp only [encs_len, List.length_set, c1, c2, f3, f4] <;> omega, ?_⟩
        conv => whnf
        repeat (first | (refine rest_vc ?_; conv => whnf) | (refine ⟨by decide, ?_⟩; conv => whnf))
        refine ⟨by simp only [encs_len, List.length_set, c1, c2, f3, f4] <;> omega, fun p hp => ?_⟩
        simp only [c1, c2, f3, f4, Int.toNat_natCast] at hp
        obtain ⟨rfl, _⟩ := encs_get hp
        clear hp
        conv => whnf
        repeat (first | (refine rest_vc ?_; conv => whnf) | (refine ⟨by decide, ?_⟩; conv => whnf))
        refine ⟨by simp only [encs_len, List.length_set, c1, c2, f3, f4] <;> omega, ?_⟩
        conv => whnf
        repeat (first | (refine rest_vc ?_; conv => whnf) | (refine ⟨by decide, ?_⟩; conv => whnf))
        refine ⟨by simp only [encs_len, List.length_set, c1, c2, f3, f4] <;> omega, fun p hp => ?_⟩
        simp only [c1, c2, f3, f4, Int.toNat_natCast] at hp
        obtain ⟨rfl, _⟩ := encs_get hp
        clear hp
        conv => whnf
        repeat (first | (refine rest_vc ?_; conv => whnf) | (refine ⟨by decide, ?_⟩; conv => whnf))
        refine ⟨by simp only [encs_len, List.length_set, c1, c2, f3, f4] <;> omega, ?_⟩
        conv => whnf
        repeat (first | (refine rest_vc ?_; conv => whnf) | (refine ⟨by decide, ?_⟩; conv => whnf))
        refine ⟨by simp only [encs_len, List.length_set, c1, c2, f3, f4] <;> omega, fun p hp => ?_⟩
        first | obtain ⟨_, rfl⟩ := encs_any0 hp | obtain ⟨_, rfl⟩ := encs_any hp
        clear hp
        conv => whnf
        repeat (first | (refine rest_vc ?_; conv => whnf) | (refine ⟨by decide, ?_⟩; conv => whnf))
        refine ⟨by simp only [encs_len, List.length_set, c1, c2, f3, f4] <;> omega, ?_⟩
        conv => whnf
        repeat (first | (refine rest_vc ?_; conv => whnf) | (refine ⟨by decide, ?_⟩; conv => whnf))
        refine ⟨by simp only [encs_len, List.length_set, c1, c2, f3, f4] <;> omega, fun p hp => ?_⟩
        first | obtain ⟨_, rfl⟩ := encs_any0 hp | obtain ⟨_, rfl⟩ := encs_any hp
        clear hp
        conv => whnf
        repeat (first | (refine rest_vc ?_; conv => whnf) | (refine ⟨by decide, ?_⟩; conv => whnf))
        refine ⟨2 * root + 1 + 1, swp e (first + root) (first + (2 * root + 1 + 1)), fun _ => 0, ⟨by omega, by rw [swp_size]; exact h3, ?_⟩, by omega, rfl, ⟨rfl, congrArg (vI .i64) (by simp only [c1, c2]), rfl, rfl, rfl, trivial⟩, congrArg (fun l => [Ob.vec 0 22 1 nl l]) ?_, fun _ _ => rfl⟩
        · rw [← h4]
          exact (sift_r1 _ (by omega) hl1 hl2).symm
        · show ((encs e).set _ _).set _ _ = _
          simp only [c1, c2, f3, f4, Int.toNat_natCast]
          exact encs_swp e (first + root) (first + (2 * root + 1 + 1))
  · have g := of_decide_eq_false g
    rw [c1, c2] at g
    refine hand_draw [] (fun _ r => r = vI .i64 (cmpB e[first + root]! e[first + (2 * root + 1)]!)) rfl (by kernel_rfl) rfl ?_
    conv => whnf
    repeat (first | (refine rest_vc ?_; conv => whnf) | (refine ⟨by decide, ?_⟩; conv => whnf))
    refine ⟨by simp only [encs_len, List.length_set, f3] <;> omega, ?_⟩
    conv => whnf
    repeat (first | (refine rest_vc ?_; conv => whnf) | (refine ⟨by decide, ?_⟩; conv => whnf))
    refine ⟨by simp only [encs_len, List.length_set, f3] <;> omega, fun p hp => ?_⟩
    simp only [f3, Int.toNat_natCast] at hp
    obtain ⟨rfl, _⟩ := encs_get hp
    clear hp
    conv => whnf
    repeat (first | (refine rest_vc ?_; conv => whnf) | (refine ⟨by decide, ?_⟩; conv => whnf))
    refine ⟨by simp only [encs_len, List.length_set, c1, c2, f1] <;> omega, ?_⟩
    conv => whnf
    repeat (first | (refine rest_vc ?_; conv => whnf) | (refine ⟨by decide, ?_⟩; conv => whnf))
    refine ⟨by simp only [encs_len, List.length_set, c1, c2, f1] <;> omega, fun p hp => ?_⟩
    simp only [c1, c2, f1, Int.toNat_natCast] at hp
    obtain ⟨rfl, _⟩ := encs_get hp
    clear hp
    conv => whnf
    repeat (first | (refine rest_vc ?_; conv => whnf) | (refine ⟨by decide, ?_⟩; conv => whnf))
    refine CallIn.dto (compare_ok _ _ _ _) (k := ?_)
    conv => whnf
    repeat (first | (refine rest_vc ?_; conv => whnf) | (refine ⟨by decide, ?_⟩; conv => whnf))
    obtain ⟨c, hc⟩ : ∃ c, c = decide (cmpI e[first + root]!.2 e[first + (2 * root + 1)]!.2 < 0) := ⟨_, rfl⟩
    rw [← hc]
    have hl2 := lt_cmp hc
    cases c
    · conv => whnf
      repeat (first | (refine rest_vc ?_; conv => whnf) | (refine ⟨by decide, ?_⟩; conv => whnf))
      refine ⟨rfl, congrArg (fun l => [vecB nl l]) ?_⟩
      rw [← h4]
      exact (sift_l0 _ (by omega) (fun h => by omega) hl2).symm
    · conv => whnf
      repeat (first | (refine rest_vc ?_; conv => whnf) | (refine ⟨by decide, ?_⟩; conv => whnf))
      refine hand_draw [21, 23] (fun _ _ => True) rfl (by kernel_rfl) rfl ?_
      conv => whnf
      repeat (first | (refine rest_vc ?_; conv => whnf) | (refine ⟨by decide, ?_⟩; conv => whnf))
      refine ⟨by simp only [encs_len, List.length_set, c1, c2, f3, f1] <;> omega, ?_⟩
      conv => whnf
      repeat (first | (refine rest_vc ?_; conv => whnf) | (refine ⟨by decide, ?_⟩; conv => whnf))
      refine ⟨by simp only [encs_len, List.length_set, c1, c2, f3, f1] <;> omega, fun p hp => ?_⟩
      simp only [c1, c2, f3, f1, Int.toNat_natCast] at hp
      obtain ⟨rfl, _⟩ := encs_get hp
      clear hp
      conv => whnf
      repeat (first | (refine rest_vc ?_; conv => whnf) | (refine ⟨by decide, ?_⟩; conv => whnf))
      refine ⟨by simp only [encs_len, List.length_set, c1, c2, f3, f1] <;> omega, ?_⟩
      conv => whnf
      repeat (first | (refine rest_vc ?_; conv => whnf) | (refine ⟨by decide, ?_⟩; conv => whnf))
      refine ⟨by simp only [encs_len, List.length_set, c1, c2, f3, f1] <;> omega, fun p hp => ?_⟩
      simp only [c1, c2, f3, f1, Int.toNat_natCast] at hp
      obtain ⟨rfl, _⟩ := encs_get hp
      clear hp
      conv => whnf
      repeat (first | (refine rest_vc ?_; conv => whnf) | (refine ⟨by decide, ?_⟩; conv => whnf))
      refine ⟨by simp only [encs_len, List.length_set, c1, c2, f3, f1] <;> omega, ?_⟩
      conv => whnf
      repeat (first | (refine rest_vc ?_; conv => whnf) | (refine ⟨by decide, ?_⟩; conv => whnf))
      refine ⟨by simp only [encs_len, List.length_set, c1, c2, f3, f1] <;> omega, fun p hp => ?_⟩
      first | obtain ⟨_, rfl⟩ := encs_any0 hp | obtain ⟨_, rfl⟩ := encs_any hp
      clear hp
      conv => whnf
      repeat (first | (refine rest_vc ?_; conv => whnf) | (refine ⟨by decide, ?_⟩; conv => whnf))
      refine ⟨by simp only [encs_len, List.length_set, c1, c2, f3, f1] <;> omega, ?_⟩
      conv => whnf
      repeat (first | (refine rest_vc ?_; conv => whnf) | (refine ⟨by decide, ?_⟩; conv => whnf))
      refine ⟨by simp only [encs_len, List.length_set, c1, c2, f3, f1] <;> omega, fun p hp => ?_⟩
      first | obtain ⟨_, rfl⟩ := encs_any0 hp | obtain ⟨_, rfl⟩ := encs_any hp
      clear hp
      conv => whnf
      repeat (first | (refine rest_vc ?_; conv => whnf) | (refine ⟨by decide, ?_⟩; conv => whnf))
      refine ⟨2 * root + 1, swp e (first + root) (first + (2 * root + 1)), fun _ => 0, ⟨by omega, by rw [swp_size]; exact h3, ?_⟩, by omega, rfl, ⟨rfl, congrArg (vI .i64) (by simp only [c1, c2]), rfl, rfl, rfl, trivial⟩, congrArg (fun l => [Ob.vec 0 22 1 nl l]) ?_, fun _ _ => rfl⟩
      · rw [← h4]
        exact (sift_l1 _ (by omega) (fun h => by omega) hl2).symm
      · show ((encs e).set _ _).set _ _ = _
        simp only [c1, c2, f3, f1, Int.toNat_natCast]
        exact encs_swp e (first + root) (first + (2 * root + 1))

end Go.Proofs.Ytlnmkolppgkglaa
