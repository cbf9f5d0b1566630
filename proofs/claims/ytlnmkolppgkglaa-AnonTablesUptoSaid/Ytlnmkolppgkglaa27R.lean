/- law27: the sort by the heap; runs that are nearly in order. -/
import Derived.Test.Ytlnmkolppgkglaa27Q
set_option linter.all false
set_option maxHeartbeats 4000000
set_option maxRecDepth 100000
namespace Go.Proofs.Ytlnmkolppgkglaa
open Go Go.RowKit Go.Sy Go.Proofs Go.Sort

theorem sift_ok' (nl : Bool) (d : Array BV) (lo hi first : Nat) (hlo : lo ≤ hi) (hf : first + hi ≤ d.size) (hd : d.size < 2 ^ 60) :
    CallOk Try.prog 76 [.vref 0 0, vI .i64 lo, vI .i64 hi, vI .i64 first, cmpV] [vecB nl d] fun r st' => ∃ e', e' = siftDown ltB hi first lo d ∧ r = .tup [] ∧ st' = [vecB nl e'] :=
  (sift_ok nl d lo hi first hlo hf hd).mono fun r st' ⟨h1, h2⟩ => ⟨_, rfl, h1, h2⟩

theorem swp_sz (d : Array BV) (i j : Nat) : (swp d i j).size = d.size := by simp [swp]
theorem ins_inner_sz (lt : BV → BV → Bool) (a : Nat) : ∀ (j : Nat) (d : Array BV), (insInner lt a j d).size = d.size
  | 0, d => rfl
  | j + 1, d => by unfold insInner; split; rw [ins_inner_sz, swp_sz]; rfl
theorem sift_sz (lt : BV → BV → Bool) (hi first : Nat) : ∀ (n root : Nat) (d : Array BV), hi - root ≤ n → (siftDown lt hi first root d).size = d.size := by
  intro n
  induction n with
  | zero => intro root d h; rw [sift_stop _ (by omega)]
  | succ n ih =>
    intro root d h
    unfold siftDown
    split
    · rfl
    · split
      · split
        · rfl
        · split
          · rw [ih _ _ (by omega), swp_sz]
          · rfl
      · split
        · rfl
        · rw [ih _ _ (by omega), swp_sz]

theorem heap_ok (nl : Bool) (d : Array BV) (a b : Nat) (hab : a < b) (hb : b ≤ d.size) (hd : d.size < 2 ^ 60) :
    CallOk Try.prog 64 [.vref 0 0, vI .i64 a, vI .i64 b, cmpV] [vecB nl d] fun r st' => r = .tup [] ∧ st' = [vecB nl (heapSort ltB d a b)] := by
  refine callOk_of false 1 Try.func64 rfl rfl (Nat.le_refl _) ?_
  have eb : IntKind.i64.wrap ((b : Int) - (a : Int)) = ((b - a : Nat) : Int) := by rw [w64 (by omega) (by omega)]; omega
  have eq1 : IntKind.i64.wrap ((IntKind.i64.wrap (IntKind.i64.wrap ((b : Int) - (a : Int)) - 1)).tdiv 2) = (((b - a - 1) / 2 + 1 : Nat) : Int) - 1 := by
    rw [eb, w64 (n := ((b - a : Nat) : Int) - 1) (by omega) (by omega), Int.tdiv_eq_ediv_of_nonneg (by omega), w64 (by omega) (by omega)]; omega
  conv => whnf
  repeat (first | (refine rest_vc ?_; conv => whnf) | (refine ⟨by decide, ?_⟩; conv => whnf))
  refine awp_loop2 (n := 60) (α := Nat) (β := Array BV) (fun k e => k ≤ (b - a - 1) / 2 + 1 ∧ e.size = d.size ∧ heapBuild ltB (b - a) a k e = heapBuild ltB (b - a) a ((b - a - 1) / 2 + 1) d) (fun k e => [(0, .vref 0 0), (3, cmpV), (8, vI .i64 a), (9, vI .i64 0), (10, vI .i64 (b - a : Nat)), (11, vI .i64 ((k : Int) - 1))]) (fun k e => [vecB nl e]) (fun k _ => k) ((b - a - 1) / 2 + 1) d (fun _ => 0)
    ⟨Nat.le_refl _, rfl, rfl⟩ rfl ⟨rfl, rfl, rfl, rfl, congrArg (vI .i64) eb, congrArg (vI .i64) eq1, trivial⟩ rfl (fun _ _ => rfl) (fun _ _ => ⟨Nat.le_refl _, rfl, rfl⟩) ?_
  rintro k e ⟨h1, h2, h3⟩
  conv => whnf
  repeat (first | (refine rest_vc ?_; conv => whnf) | (refine ⟨by decide, ?_⟩; conv => whnf))
  split <;> rename_i h <;> (conv => whnf) <;> repeat (first | (refine rest_vc ?_; conv => whnf) | (refine ⟨by decide, ?_⟩; conv => whnf))
  · have h := of_decide_eq_true h
    have ek : (k : Int) - 1 = ((k - 1 : Nat) : Int) := by omega
    have hm := sift_ok' nl e (k - 1) (b - a) a (by omega) (by omega) (by omega)
    rw [← ek] at hm
    refine CallIn.o [0] hm (k := ?_)
    rintro r st' ⟨e', he, rfl, rfl⟩
    conv => whnf
    repeat (first | (refine rest_vc ?_; conv => whnf) | (refine ⟨by decide, ?_⟩; conv => whnf))
    refine ⟨k - 1, e', fun _ => 0, ⟨by omega, by rw [he, sift_sz _ _ _ _ _ _ (Nat.le_refl _)]; exact h2, ?_⟩, by omega, rfl, ⟨rfl, rfl, rfl, rfl, rfl, congrArg (vI .i64) (by rw [w64 (by omega) (by omega)]; omega), trivial⟩, rfl, fun _ _ => rfl⟩
    rw [← h3, he]
    obtain ⟨k, rfl⟩ : ∃ m, k = m + 1 := ⟨k - 1, by omega⟩
    rfl
  have h := of_decide_eq_false h
  have hk0 : k = 0 := by omega
  subst hk0
  have h3 : e = heapBuild ltB (b - a) a ((b - a - 1) / 2 + 1) d := h3
  refine awp_loop2 (n := 60) (α := Nat) (β := Array BV) (fun k e' => k ≤ b - a ∧ e'.size = d.size ∧ heapPop ltB a k e' = heapPop ltB a (b - a) e) (fun k e => [(0, .vref 0 0), (3, cmpV), (8, vI .i64 a), (9, vI .i64 0), (12, vI .i64 ((k : Int) - 1))]) (fun k e => [vecB nl e]) (fun k _ => k) (b - a) e (fun _ => 0)
    ⟨Nat.le_refl _, h2, rfl⟩ rfl ⟨rfl, rfl, rfl, rfl, congrArg (vI .i64) (by rw [w64 (by omega) (by omega)]), trivial⟩ rfl (fun _ _ => rfl) (fun _ _ => ⟨Nat.le_refl _, rfl, rfl⟩) ?_
  rintro k e' ⟨k1, k2, k3⟩
  conv => whnf
  repeat (first | (refine rest_vc ?_; conv => whnf) | (refine ⟨by decide, ?_⟩; conv => whnf))
  split <;> rename_i g <;> (conv => whnf) <;> repeat (first | (refine rest_vc ?_; conv => whnf) | (refine ⟨by decide, ?_⟩; conv => whnf))
  · have g := of_decide_eq_true g
    have ek : (k : Int) - 1 = ((k - 1 : Nat) : Int) := by omega
    have ea : IntKind.i64.wrap ((a : Int) + ((k : Int) - 1)) = ((a + (k - 1) : Nat) : Int) := by rw [w64 (by omega) (by omega)]; omega
    refine hand_draw [17, 19] (fun _ _ => True) rfl (by kernel_rfl) rfl ?_
    conv => whnf
    repeat (first | (refine rest_vc ?_; conv => whnf) | (refine ⟨by decide, ?_⟩; conv => whnf))
    refine ⟨by simp only [encs_len, List.length_set, ea] <;> omega, ?_⟩
    conv => whnf
    repeat (first | (refine rest_vc ?_; conv => whnf) | (refine ⟨by decide, ?_⟩; conv => whnf))
    refine ⟨by simp only [encs_len, List.length_set, ea] <;> omega, fun p hp => ?_⟩
    simp only [ea, Int.toNat_natCast] at hp
    obtain ⟨rfl, _⟩ := encs_get hp
    clear hp
    conv => whnf
    repeat (first | (refine rest_vc ?_; conv => whnf) | (refine ⟨by decide, ?_⟩; conv => whnf))
    refine ⟨by simp only [encs_len, List.length_set, ea] <;> omega, ?_⟩
    conv => whnf
    repeat (first | (refine rest_vc ?_; conv => whnf) | (refine ⟨by decide, ?_⟩; conv => whnf))
    refine ⟨by simp only [encs_len, List.length_set, ea] <;> omega, fun p hp => ?_⟩
    simp only [ea, Int.toNat_natCast] at hp
    obtain ⟨rfl, _⟩ := encs_get hp
    clear hp
    conv => whnf
    repeat (first | (refine rest_vc ?_; conv => whnf) | (refine ⟨by decide, ?_⟩; conv => whnf))
    refine ⟨by simp only [encs_len, List.length_set, ea] <;> omega, ?_⟩
    conv => whnf
    repeat (first | (refine rest_vc ?_; conv => whnf) | (refine ⟨by decide, ?_⟩; conv => whnf))
    refine ⟨by simp only [encs_len, List.length_set, ea] <;> omega, fun p hp => ?_⟩
    first | obtain ⟨_, rfl⟩ := encs_any0 hp | obtain ⟨_, rfl⟩ := encs_any hp
    clear hp
    conv => whnf
    repeat (first | (refine rest_vc ?_; conv => whnf) | (refine ⟨by decide, ?_⟩; conv => whnf))
    refine ⟨by simp only [encs_len, List.length_set, ea] <;> omega, ?_⟩
    conv => whnf
    repeat (first | (refine rest_vc ?_; conv => whnf) | (refine ⟨by decide, ?_⟩; conv => whnf))
    refine ⟨by simp only [encs_len, List.length_set, ea] <;> omega, fun p hp => ?_⟩
    first | obtain ⟨_, rfl⟩ := encs_any0 hp | obtain ⟨_, rfl⟩ := encs_any hp
    clear hp
    conv => whnf
    repeat (refine ⟨by decide, ?_⟩; conv => whnf)
    obtain ⟨e2, he2⟩ : ∃ e2, e2 = swp e' a (a + (k - 1)) := ⟨_, rfl⟩
    refine rest_st (st' := [vecB nl e2]) (congrArg (fun l => [Ob.vec 0 22 1 nl l]) ?_) ?_
    · show ((encs e').set _ _).set _ _ = _
      simp only [ea, Int.toNat_natCast]
      rw [he2]
      exact encs_swp e' a (a + (k - 1))
    refine rest_vc ?_
    conv => whnf
    repeat (first | (refine rest_vc ?_; conv => whnf) | (refine ⟨by decide, ?_⟩; conv => whnf))
    have hs2 : e2.size = d.size := by rw [he2, swp_sz]; exact k2
    have hm := sift_ok' nl e2 0 (k - 1) a (by omega) (by omega) (by omega)
    rw [← ek] at hm
    refine CallIn.o [0] hm (k := ?_)
    rintro r st' ⟨e3, he, rfl, rfl⟩
    conv => whnf
    repeat (first | (refine rest_vc ?_; conv => whnf) | (refine ⟨by decide, ?_⟩; conv => whnf))
    refine ⟨k - 1, e3, fun _ => 0, ⟨by omega, by rw [he, sift_sz _ _ _ _ _ _ (Nat.le_refl _)]; exact hs2, ?_⟩, by omega, rfl, ⟨rfl, rfl, rfl, rfl, congrArg (vI .i64) (by rw [w64 (by omega) (by omega)]; omega), trivial⟩, rfl, fun _ _ => rfl⟩
    rw [← k3, he, he2]
    obtain ⟨k, rfl⟩ : ∃ m, k = m + 1 := ⟨k - 1, by omega⟩
    rfl
  · have g := of_decide_eq_false g
    refine ⟨rfl, congrArg (fun l => [vecB nl l]) ?_⟩
    have hk0 : k = 0 := by omega
    subst hk0
    show e' = heapPop ltB a (b - a) _
    rw [← h3, ← k3]
    rfl
end Go.Proofs.Ytlnmkolppgkglaa
