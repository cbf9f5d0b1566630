/- law27: bits of addresses. -/
import Derived.Test.YtlnmkolppgkglaaSyT
set_option linter.all false
set_option maxHeartbeats 4000000
set_option maxRecDepth 100000
namespace Go.Proofs.Ytlnmkolppgkglaa
open Go Go.RowKit Go.Sy Go.Proofs

theorem and1 (y : Int) : IntKind.u8.wrap ((BitVec.ofInt 8 y &&& BitVec.ofInt 8 1).toNat : Int) = y % 2 := by
  have h1 : (BitVec.ofInt 8 y &&& BitVec.ofInt 8 1).toNat = (y % 256).toNat % 2 := by
    rw [BitVec.toNat_and, BitVec.toNat_ofInt, BitVec.toNat_ofInt]
    exact Nat.and_one_is_mod _
  rw [h1, IntKind.wrap_u8]
  omega

theorem bit_ok (nl : Bool) (l : List Int) (i : Int) (h0 : 0 ≤ i) (h1 : i < 8 * l.length) (hl : (l.length : Int) ≤ 100000) : CallOk Try.prog 39 [bts nl l, vI .i64 i] [] fun r st' => st' = [] ∧ r = vI .u8 (bitI l i) := by
  refine callOk_of true 0 Try.func39 rfl rfl (Nat.le_refl _) ?_
  conv => whnf
  repeat (refine rest_vc ?_; conv => whnf)
  refine ⟨by decide, ?_⟩
  conv => whnf
  repeat (refine rest_vc ?_; conv => whnf)
  have e1 : IntKind.i64.wrap (i.tdiv 8) = i / 8 := by rw [Int.tdiv_eq_ediv_of_nonneg h0, w64 (by omega) (by omega)]
  refine ⟨by rw [e1, u8s_len]; omega, fun p hp => ?_⟩
  obtain ⟨rfl, hlt⟩ := u8s_get hp
  conv => whnf
  repeat (refine rest_vc ?_; conv => whnf)
  refine ⟨by decide, ?_⟩
  conv => whnf
  repeat (refine rest_vc ?_; conv => whnf)
  have e2 : IntKind.i64.wrap (7 - i.tmod 8) = 7 - i % 8 := by rw [Int.tmod_eq_emod_of_nonneg h0, w64 (by omega) (by omega)]
  refine ⟨by rw [e2]; omega, ?_⟩
  conv => whnf
  repeat (refine rest_vc ?_; conv => whnf)
  refine ⟨rfl, ?_⟩
  show vI .u8 _ = vI .u8 _
  refine congrArg (vI .u8) ((and1 _).trans ?_)
  rw [e1, e2]
  unfold iShr
  rw [Int.fdiv_eq_ediv_of_nonneg _ (Int.le_of_lt (Int.pow_pos (by decide)))]
  unfold bitI
  have : min (7 - i % 8).toNat IntKind.u8.bits = (7 - i % 8).toNat := Nat.min_eq_left (by show _ ≤ 8; omega)
  rw [this]

/-- How far two rows go together, from n on, k steps at most. -/
def cmG (f g : Int → Int) : Nat → Nat → Nat
  | 0, n => n
  | k + 1, n => if f n = g n then cmG f g k (n + 1) else n
def cmB (a b : List Int) : Nat := cmG (bitI a) (bitI b) (8 * a.length) 0

theorem common_ok (na nb : Bool) (a b : List Int) (hl : a.length = b.length) (ha : (a.length : Int) ≤ 100000) : CallOk Try.prog 22 [bts na a, bts nb b] [] fun r st' => st' = [] ∧ r = vI .i64 (cmB a b) := by
  refine callOk_of true 0 Try.func22 rfl rfl (Nat.le_refl _) ?_
  conv => whnf
  repeat (refine rest_vc ?_; conv => whnf)
  refine awp_loop (n := 23) (α := Nat) (fun x => x ≤ 8 * a.length ∧ cmG (bitI a) (bitI b) (8 * a.length - x) x = cmB a b) (fun x => [(0, bts na a), (1, bts nb b), (5, vI .i64 x)]) (fun _ => []) (fun x => 8 * a.length - x) 0 (fun _ => 0)
    ⟨Nat.zero_le _, rfl⟩ rfl ⟨rfl, rfl, rfl, trivial⟩ rfl (fun _ _ => rfl) (fun x => ⟨Nat.le_refl _, rfl, rfl⟩) ?_
  rintro x ⟨hx, hc⟩
  conv => whnf
  repeat (refine rest_vc ?_; conv => whnf)
  intro _
  conv => whnf
  repeat (refine rest_vc ?_; conv => whnf)
  split
  · rename_i h
    have hlt : x < 8 * a.length := by
      have := of_decide_eq_true h
      rw [u8s_len, w64 (by omega) (by omega)] at this
      omega
    conv => whnf
    repeat (refine rest_vc ?_; conv => whnf)
    refine .pure (fun r => r = vI .u8 (bitI a x)) ((bit_ok na a x (by omega) (by omega) ha).mono fun r st' h => h) rfl (.inl rfl) ?_
    rintro r rfl
    conv => whnf
    repeat (refine rest_vc ?_; conv => whnf)
    refine .pure (fun r => r = vI .u8 (bitI b x)) ((bit_ok nb b x (by omega) (by omega) (by omega)).mono fun r st' h => h) rfl (.inl rfl) ?_
    rintro r rfl
    conv => whnf
    repeat (refine rest_vc ?_; conv => whnf)
    split
    · rename_i h2
      conv => whnf
      repeat (refine rest_vc ?_; conv => whnf)
      have he : bitI a x = bitI b x := by simpa using h2
      refine ⟨x + 1, fun _ => 0, ⟨by omega, ?_⟩, by omega, rfl, ⟨rfl, rfl, congrArg (vI .i64) (by rw [w64 (by omega) (by omega)]; omega), trivial⟩, rfl, fun _ _ => rfl⟩
      rw [← hc, show 8 * a.length - x = (8 * a.length - (x + 1)) + 1 by omega]
      simp only [cmG, he, if_true]
    · rename_i h2
      conv => whnf
      repeat (refine rest_vc ?_; conv => whnf)
      have he : bitI a x ≠ bitI b x := by simpa using h2
      refine ⟨rfl, congrArg (fun n : Nat => vI .i64 n) ?_⟩
      rw [← hc, show 8 * a.length - x = (8 * a.length - (x + 1)) + 1 by omega]
      simp only [cmG, he, if_false]
  · rename_i h
    conv => whnf
    repeat (refine rest_vc ?_; conv => whnf)
    have hge : x = 8 * a.length := by
      have := of_decide_eq_false h
      rw [u8s_len, w64 (by omega) (by omega)] at this
      omega
    refine ⟨rfl, congrArg (fun n : Nat => vI .i64 n) ?_⟩
    rw [← hc, hge, Nat.sub_self]
    rfl

theorem isAddress_ok (nl : Bool) (l : List Int) : CallOk Try.prog 21 [bts nl l] [] fun r st' => st' = [] ∧ r = vB (decide (1 ≤ l.length ∧ l.length ≤ 16)) := by
  refine callOk_of true 0 Try.func21 rfl rfl (Nat.le_refl _) ?_
  conv => whnf
  repeat (refine rest_vc ?_; conv => whnf)
  intro _
  conv => whnf
  repeat (refine rest_vc ?_; conv => whnf)
  split
  · rename_i h
    have h := of_decide_eq_true h
    rw [u8s_len] at h
    conv => whnf
    repeat (refine rest_vc ?_; conv => whnf)
    intro _
    conv => whnf
    repeat (refine rest_vc ?_; conv => whnf)
    split
    · rename_i h2
      have h2 := of_decide_eq_true h2
      rw [u8s_len] at h2
      conv => whnf
      repeat (refine rest_vc ?_; conv => whnf)
      exact ⟨rfl, congrArg vB (by simp; omega)⟩
    · rename_i h2
      have h2 := of_decide_eq_false h2
      rw [u8s_len] at h2
      conv => whnf
      repeat (refine rest_vc ?_; conv => whnf)
      exact ⟨rfl, congrArg vB (by simp; omega)⟩
  · rename_i h
    have h := of_decide_eq_false h
    rw [u8s_len] at h
    conv => whnf
    repeat (refine rest_vc ?_; conv => whnf)
    exact ⟨rfl, congrArg vB (by simp; omega)⟩

/-- A copy is a row of one's own; nothing stays nothing. -/
theorem clone_ok (l : List Int) (hl : (l.length : Int) ≤ 100000) : CallOk Try.prog 26 [bts false l] [] fun r st' => r = .vref 0 1 ∧ st' = [.vec 1 5 1 false (u8s l)] := by
  refine callOk_of false 1 Try.func26 rfl rfl (Nat.zero_le _) ?_
  conv => whnf
  repeat (refine rest_vc ?_; conv => whnf)
  refine ⟨?_, ?_⟩
  · show (0 + (u8s l).length) * 1 ≤ _
    rw [u8s_len]; omega
  conv => whnf
  repeat (refine rest_vc ?_; conv => whnf)
  exact ⟨rfl, rfl⟩
theorem clone_nil : CallOk Try.prog 26 [bts true []] [] fun r st' => r = bts true [] ∧ st' = [] := by
  refine callOk_of false 0 Try.func26 rfl rfl (Nat.le_refl _) ?_
  conv => whnf
  repeat (refine rest_vc ?_; conv => whnf)
  exact ⟨rfl, rfl⟩

/-- One bit turned, in one byte. -/
def flipI (l : List Int) (i : Int) : List Int := l.set (i / 8).toNat (iXor .u8 (l.getD (i / 8).toNat 0) (iShl .u8 1 (7 - i % 8)))

theorem flip_ok (n : Nat) (nl : Bool) (l : List Int) (i : Int) (h0 : 0 ≤ i) (h1 : i < 8 * l.length) (hl : (l.length : Int) ≤ 100000) :
    CallOk Try.prog 27 [.vref 0 n, vI .i64 i] [.vec n 5 1 nl (u8s l)] fun r st' => r = .tup [] ∧ st' = [.vec n 5 1 nl (u8s (flipI l i))] := by
  refine callOk_of false 1 Try.func27 rfl rfl (Nat.le_refl _) ?_
  conv => whnf
  repeat (refine rest_vc ?_; conv => whnf)
  refine hand_draw [11] (fun _ _ => True) rfl (by kernel_rfl) rfl ?_
  conv => whnf
  repeat (refine rest_vc ?_; conv => whnf)
  have e1 : IntKind.i64.wrap (i.tdiv 8) = i / 8 := by rw [Int.tdiv_eq_ediv_of_nonneg h0, w64 (by omega) (by omega)]
  have e2 : IntKind.i64.wrap (7 - i.tmod 8) = 7 - i % 8 := by rw [Int.tmod_eq_emod_of_nonneg h0, w64 (by omega) (by omega)]
  refine ⟨by decide, ?_⟩
  conv => whnf
  repeat (refine rest_vc ?_; conv => whnf)
  refine must_nn rfl ⟨by rw [e1, u8s_len]; omega, ?_⟩
  conv => whnf
  repeat (refine rest_vc ?_; conv => whnf)
  refine must_nn rfl ⟨by rw [e1, u8s_len]; omega, fun p hp => ?_⟩
  obtain ⟨rfl, hlt⟩ := u8s_get hp
  conv => whnf
  repeat (refine rest_vc ?_; conv => whnf)
  refine ⟨by decide, ?_⟩
  conv => whnf
  repeat (refine rest_vc ?_; conv => whnf)
  refine ⟨by rw [e2]; omega, ?_⟩
  conv => whnf
  repeat (refine rest_vc ?_; conv => whnf)
  refine must_nn rfl ⟨by rw [e1, u8s_len]; omega, ?_⟩
  conv => whnf
  repeat (refine rest_vc ?_; conv => whnf)
  refine must_nn (by kernel_rfl) ⟨by rw [e1, u8s_len]; omega, fun p hp => ?_⟩
  obtain ⟨rfl, hlt⟩ := u8s_get hp
  conv => whnf
  repeat (refine rest_vc ?_; conv => whnf)
  refine ⟨rfl, ?_⟩
  refine congrArg (fun l => [Ob.vec n 5 1 nl l]) ?_
  show (u8s l).set _ _ = _
  rw [e1, e2]
  unfold u8s flipI
  rw [List.map_set]
  refine congrArg (List.set _ _) ?_
  show PV.val (.int .u8 _) = PV.val (.int .u8 _)
  refine congrArg (fun x => PV.val (.int .u8 x)) ?_
  rfl
end Go.Proofs.Ytlnmkolppgkglaa
