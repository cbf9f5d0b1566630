/- law27: the sort's lengths of numbers, patterns broken, pivots. -/
import Derived.Test.Ytlnmkolppgkglaa27T
set_option linter.all false
set_option maxHeartbeats 4000000
set_option maxRecDepth 100000
namespace Go.Proofs.Ytlnmkolppgkglaa
open Go Go.RowKit Go.Sy Go.Proofs Go.Sort

theorem shr_nat (x s : Nat) (h : s ≤ 64) : iShr .u64 (x : Int) (s : Int) = ((x / 2 ^ s : Nat) : Int) := by
  unfold iShr
  have : min ((s : Int).toNat) (IntKind.u64.bits) = s := by simp [IntKind.bits]; omega
  rw [this, Int.fdiv_eq_ediv_of_nonneg _ (Int.pow_nonneg (by decide))]
  rw [Int.natCast_ediv, Int.natCast_pow]
  rfl

theorem half_step {n x s t : Nat} (h1 : x * 2 ^ s ≤ n) (h2 : n < (x + 1) * 2 ^ s) (hx : 2 ^ t ≤ x) : x / 2 ^ t * 2 ^ (s + t) ≤ n ∧ n < (x / 2 ^ t + 1) * 2 ^ (s + t) ∧ 1 ≤ x / 2 ^ t := by
  have hp : 0 < 2 ^ t := Nat.pos_of_ne_zero (by simp)
  have e1 : x / 2 ^ t * 2 ^ t ≤ x := Nat.div_mul_le_self _ _
  have e2 : x < (x / 2 ^ t + 1) * 2 ^ t := by rw [Nat.mul_comm]; exact Nat.lt_mul_div_succ x hp
  refine ⟨?_, ?_, ?_⟩
  · calc x / 2 ^ t * 2 ^ (s + t) = x / 2 ^ t * 2 ^ t * 2 ^ s := by rw [Nat.pow_add, Nat.mul_assoc, Nat.mul_comm (2 ^ t)]
      _ ≤ x * 2 ^ s := Nat.mul_le_mul_right _ e1
      _ ≤ n := h1
  · calc n < (x + 1) * 2 ^ s := h2
      _ ≤ (x / 2 ^ t + 1) * 2 ^ t * 2 ^ s := Nat.mul_le_mul_right _ e2
      _ = (x / 2 ^ t + 1) * 2 ^ (s + t) := by rw [Nat.pow_add, Nat.mul_assoc, Nat.mul_comm (2 ^ t)]
  · exact Nat.div_pos hx hp

theorem len_ok (n : Nat) (h1 : 1 ≤ n) (h2 : n < 2 ^ 60) : CallOk Try.prog 72 [vI .u64 n] [] fun r st' => st' = [] ∧ ∃ l : Nat, r = vI .i64 l ∧ n < 2 ^ l ∧ 2 ^ l ≤ 2 * n ∧ l ≤ 64 := by
  refine callOk_of true 0 Try.func72 rfl rfl (Nat.le_refl _) ?_
  conv => whnf
  repeat (refine ⟨by decide, ?_⟩; conv => whnf)
  refine rest_join (α := Nat × Nat) 25 (fun y => y.1 * 2 ^ y.2 ≤ n ∧ n < (y.1 + 1) * 2 ^ y.2 ∧ 1 ≤ y.1 ∧ y.1 < 2 ^ 32 ∧ y.2 ≤ 32) (fun y => [(0, vI .u64 y.1), (2, vI .i64 y.2)]) (fun _ => []) (fun _ => ⟨Nat.le_refl _, rfl, rfl⟩) ?_ ?_
  · conv => whnf
    repeat (first | (refine rest_vc ?_; conv => whnf) | (refine ⟨by decide, ?_⟩; conv => whnf))
    split <;> rename_i h <;> (conv => whnf) <;> repeat (first | (refine rest_vc ?_; conv => whnf) | (refine ⟨by decide, ?_⟩; conv => whnf))
    · have h := of_decide_eq_true h
      have hs := half_step (n := n) (x := n) (s := 0) (t := 32) (by simp) (by simp) (by omega)
      refine ⟨(n / 2 ^ 32, 32), fun _ => 0, ⟨by simpa using hs.1, by simpa using hs.2.1, hs.2.2, by show _ < _; omega, Nat.le_refl _⟩, rfl, ⟨congrArg (vI .u64) (shr_nat n 32 (by decide)), rfl, trivial⟩, rfl, fun _ _ => rfl⟩
    · have h := of_decide_eq_false h
      exact ⟨(n, 0), fun _ => 0, ⟨by simp, by simp, h1, by show _ < _; omega, Nat.zero_le _⟩, rfl, ⟨rfl, rfl, trivial⟩, rfl, fun _ _ => rfl⟩
  rintro ⟨x, s⟩ ⟨k1, k2, k3, k4, k5⟩
  simp only at k1 k2 k3 k4 k5
  refine rest_join (α := Nat × Nat) 25 (fun y => y.1 * 2 ^ y.2 ≤ n ∧ n < (y.1 + 1) * 2 ^ y.2 ∧ 1 ≤ y.1 ∧ y.1 < 2 ^ 16 ∧ y.2 ≤ 48) (fun y => [(0, vI .u64 y.1), (2, vI .i64 y.2)]) (fun _ => []) (fun _ => ⟨Nat.le_refl _, rfl, rfl⟩) ?_ ?_
  · conv => whnf
    repeat (first | (refine rest_vc ?_; conv => whnf) | (refine ⟨by decide, ?_⟩; conv => whnf))
    split <;> rename_i h <;> (conv => whnf) <;> repeat (first | (refine rest_vc ?_; conv => whnf) | (refine ⟨by decide, ?_⟩; conv => whnf))
    · have h := of_decide_eq_true h
      have hs := half_step (n := n) (x := x) (s := s) (t := 16) k1 k2 (by omega)
      refine ⟨(x / 2 ^ 16, s + 16), fun _ => 0, ⟨hs.1, hs.2.1, hs.2.2, by show _ < _; omega, by show _ ≤ _; omega⟩, rfl, ⟨congrArg (vI .u64) (shr_nat x 16 (by decide)), congrArg (vI .i64) (by show IntKind.i64.wrap _ = _; rw [w64 (by omega) (by omega)]; rfl), trivial⟩, rfl, fun _ _ => rfl⟩
    · have h := of_decide_eq_false h
      exact ⟨(x, s), fun _ => 0, ⟨k1, k2, k3, by show _ < _; omega, by show _ ≤ _; omega⟩, rfl, ⟨rfl, rfl, trivial⟩, rfl, fun _ _ => rfl⟩
  clear k1 k2 k3 k4 k5
  clear s x
  rintro ⟨x, s⟩ ⟨k1, k2, k3, k4, k5⟩
  simp only at k1 k2 k3 k4 k5
  refine rest_join (α := Nat × Nat) 25 (fun y => y.1 * 2 ^ y.2 ≤ n ∧ n < (y.1 + 1) * 2 ^ y.2 ∧ 1 ≤ y.1 ∧ y.1 < 2 ^ 8 ∧ y.2 ≤ 56) (fun y => [(0, vI .u64 y.1), (2, vI .i64 y.2)]) (fun _ => []) (fun _ => ⟨Nat.le_refl _, rfl, rfl⟩) ?_ ?_
  · conv => whnf
    repeat (first | (refine rest_vc ?_; conv => whnf) | (refine ⟨by decide, ?_⟩; conv => whnf))
    split <;> rename_i h <;> (conv => whnf) <;> repeat (first | (refine rest_vc ?_; conv => whnf) | (refine ⟨by decide, ?_⟩; conv => whnf))
    · have h := of_decide_eq_true h
      have hs := half_step (n := n) (x := x) (s := s) (t := 8) k1 k2 (by omega)
      refine ⟨(x / 2 ^ 8, s + 8), fun _ => 0, ⟨hs.1, hs.2.1, hs.2.2, by show _ < _; omega, by show _ ≤ _; omega⟩, rfl, ⟨congrArg (vI .u64) (shr_nat x 8 (by decide)), congrArg (vI .i64) (by show IntKind.i64.wrap _ = _; rw [w64 (by omega) (by omega)]; rfl), trivial⟩, rfl, fun _ _ => rfl⟩
    · have h := of_decide_eq_false h
      exact ⟨(x, s), fun _ => 0, ⟨k1, k2, k3, by show _ < _; omega, by show _ ≤ _; omega⟩, rfl, ⟨rfl, rfl, trivial⟩, rfl, fun _ _ => rfl⟩
  clear k1 k2 k3 k4 k5
  clear s x
  rintro ⟨x, s⟩ ⟨k1, k2, k3, k4, k5⟩
  simp only at k1 k2 k3 k4 k5
  have eu : IntKind.u8.wrap (x : Int) = (x : Int) := by simp [IntKind.wrap, IntKind.bits, IntKind.signed]; omega
  have hb := (bitsLen_le_iff x 8).2 k4
  refine rest_vc ?_
  conv => whnf
  repeat (first | (refine rest_vc ?_; conv => whnf) | (refine ⟨by decide, ?_⟩; conv => whnf))
  refine ⟨⟨by rw [eu]; omega, by rw [eu]; show (x : Int) < 256; omega⟩, ?_⟩
  conv => whnf
  repeat (first | (refine rest_vc ?_; conv => whnf) | (refine ⟨by decide, ?_⟩; conv => whnf))
  refine ⟨rfl, s + bitsLen x, congrArg (vI .i64) ?_, ?_, ?_, by omega⟩
  · refine (congrArg (fun z => IntKind.i64.wrap ((s : Int) + IntKind.i64.wrap z)) (?_ : byteAt _ _ = ((bitsLen x : Nat) : Int))).trans ?_
    · rw [eu, Int.toNat_natCast]
      clear eu hb k1 k2 k3 k5
      revert k4
      revert x
      decide +kernel
    · rw [w64 (n := ((bitsLen x : Nat) : Int)) (by omega) (by omega), w64 (by omega) (by omega)]
      omega
  · have := lt_two_pow_bitsLen x
    calc n < (x + 1) * 2 ^ s := k2
      _ ≤ 2 ^ bitsLen x * 2 ^ s := Nat.mul_le_mul_right _ this
      _ = 2 ^ (s + bitsLen x) := by rw [Nat.pow_add, Nat.mul_comm]
  · have := two_pow_bitsLen_le (n := x) (by omega)
    calc 2 ^ (s + bitsLen x) = 2 ^ bitsLen x * 2 ^ s := by rw [Nat.pow_add, Nat.mul_comm]
      _ ≤ 2 * x * 2 ^ s := Nat.mul_le_mul_right _ this
      _ = 2 * (x * 2 ^ s) := Nat.mul_assoc _ _ _
      _ ≤ 2 * n := Nat.mul_le_mul_left _ k1

theorem blen_ok (n : Nat) (h1 : 1 ≤ n) (h2 : n < 2 ^ 60) : CallOk Try.prog 57 [vI .u64 n] [] fun r st' => st' = [] ∧ ∃ l : Nat, r = vI .i64 l ∧ n < 2 ^ l ∧ 2 ^ l ≤ 2 * n ∧ l ≤ 64 := by
  refine callOk_of true 0 Try.func57 rfl rfl (Nat.le_refl _) ?_
  conv => whnf
  repeat (first | (refine rest_vc ?_; conv => whnf) | (refine ⟨by decide, ?_⟩; conv => whnf))
  refine CallIn.top (len_ok n h1 h2) (k := ?_)
  rintro r ⟨l, rfl, k1, k2, k3⟩
  conv => whnf
  repeat (first | (refine rest_vc ?_; conv => whnf) | (refine ⟨by decide, ?_⟩; conv => whnf))
  exact ⟨rfl, l, rfl, k1, k2, k3⟩

theorem u64_nat {n : Nat} (h : n < 2 ^ 64) : IntKind.u64.wrap (n : Int) = (n : Int) := by simp [IntKind.wrap, IntKind.bits, IntKind.signed]; omega

theorem pow2_ok (n : Nat) (h1 : 1 ≤ n) (h2 : n < 2 ^ 60) : CallOk Try.prog 77 [vI .i64 n] [] fun r st' => st' = [] ∧ ∃ m : Nat, r = vI .u64 m ∧ 0 < m ∧ m ≤ 2 * n := by
  refine callOk_of true 0 Try.func77 rfl rfl (Nat.le_refl _) ?_
  have hl := blen_ok n h1 h2
  rw [← u64_nat (n := n) (by omega)] at hl
  conv => whnf
  repeat (first | (refine rest_vc ?_; conv => whnf) | (refine ⟨by decide, ?_⟩; conv => whnf))
  refine CallIn.top hl (k := ?_)
  rintro r ⟨l, rfl, k1, k2, k3⟩
  conv => whnf
  repeat (first | (refine rest_vc ?_; conv => whnf) | (refine ⟨by decide, ?_⟩; conv => whnf))
  refine ⟨by omega, ?_⟩
  conv => whnf
  repeat (first | (refine rest_vc ?_; conv => whnf) | (refine ⟨by decide, ?_⟩; conv => whnf))
  refine ⟨rfl, 2 ^ l, congrArg (vI .u64) ?_, Nat.pos_of_ne_zero (by simp), k2⟩
  unfold iShl
  have : min ((l : Int).toNat) (IntKind.u64.bits) = l := by simp [IntKind.bits]; omega
  rw [this, Int.one_mul, show ((2 : Int) ^ l) = ((2 ^ l : Nat) : Int) by rw [Int.natCast_pow]; rfl]
  exact u64_nat (by omega)

theorem next_ok (s : Int) : CallOk Try.prog 78 [.ptr 0 0] [.cells 112 [vI .u64 s]] fun r st' => ∃ x y, r = vI .u64 x ∧ st' = [.cells 112 [vI .u64 y]] := by
  refine callOk_of false 1 Try.func78 rfl rfl (Nat.le_refl _) ?_
  conv => whnf
  repeat (first | (refine rest_vc ?_; conv => whnf) | (refine ⟨by decide, ?_⟩; conv => whnf))
  refine hand_draw [9] (fun _ _ => True) rfl (by kernel_rfl) rfl ?_
  conv => whnf
  repeat (first | (refine rest_vc ?_; conv => whnf) | (refine ⟨by decide, ?_⟩; conv => whnf))
  refine hand_draw [9] (fun _ _ => True) rfl (by kernel_rfl) rfl ?_
  conv => whnf
  repeat (first | (refine rest_vc ?_; conv => whnf) | (refine ⟨by decide, ?_⟩; conv => whnf))
  refine hand_draw [9] (fun _ _ => True) rfl (by kernel_rfl) rfl ?_
  conv => whnf
  repeat (first | (refine rest_vc ?_; conv => whnf) | (refine ⟨by decide, ?_⟩; conv => whnf))
  exact ⟨_, _, rfl, rfl⟩

theorem and_mask (x : Int) (m : Nat) (h0 : 0 < m) (h : m < 2 ^ 62) : ∃ y : Nat, iAnd .u64 x (IntKind.u64.wrap ((m : Int) - 1)) = (y : Int) ∧ y < m := by
  have e : IntKind.u64.wrap ((m : Int) - 1) = ((m - 1 : Nat) : Int) := by
    rw [show (m : Int) - 1 = ((m - 1 : Nat) : Int) by omega]
    exact u64_nat (by omega)
  rw [e]
  unfold iAnd
  have hle : (BitVec.ofInt 64 x &&& BitVec.ofInt 64 ((m - 1 : Nat) : Int)).toNat ≤ m - 1 := by
    rw [BitVec.toNat_and]
    refine Nat.le_trans Nat.and_le_right ?_
    rw [BitVec.toNat_ofInt]
    omega
  refine ⟨_, u64_nat (Nat.lt_of_le_of_lt hle (by omega)), by show _ < m; exact Nat.lt_of_le_of_lt hle (by omega)⟩
end Go.Proofs.Ytlnmkolppgkglaa
