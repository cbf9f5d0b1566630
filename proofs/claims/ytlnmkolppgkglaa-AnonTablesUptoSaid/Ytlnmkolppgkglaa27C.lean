/- law27: the front of an address, numbers out of bytes. -/
import Derived.Test.Ytlnmkolppgkglaa27B
set_option linter.all false
set_option maxHeartbeats 4000000
set_option maxRecDepth 100000
namespace Go.Proofs.Ytlnmkolppgkglaa
open Go Go.RowKit Go.Sy Go.Proofs

/-- One bit cleared, in one byte. -/
def clrI (l : List Int) (i : Int) : List Int := l.set (i / 8).toNat (iAndNot .u8 (l.getD (i / 8).toNat 0) (iShl .u8 1 (7 - i % 8)))
def frG : Nat → Nat → List Int → List Int
  | 0, _, l => l
  | m + 1, k, l => frG m (k + 1) (clrI l k)
def frontI (l : List Int) (i : Nat) : List Int := frG (8 * l.length - i) i l
theorem clrI_len (l : List Int) (i : Int) : (clrI l i).length = l.length := by simp [clrI]
theorem frG_len : ∀ (m k : Nat) (l : List Int), (frG m k l).length = l.length
  | 0, k, l => rfl
  | m + 1, k, l => by simp [frG, frG_len m, clrI_len]

theorem front_ok (l : List Int) (i : Nat) (hi : i ≤ 8 * l.length) (hl : (l.length : Int) ≤ 100000) :
    CallOk Try.prog 43 [bts false l, vI .i64 i] [] fun r st' => st' = [] ∧ r = bts false (frontI l i) := by
  refine callOk_of true 0 Try.func43 rfl rfl (Nat.le_refl _) ?_
  conv => whnf
  repeat (refine rest_vc ?_; conv => whnf)
  refine .obj [] [bts false l] [] _ (by simp) (by simp) rfl rfl rfl rfl (clone_ok l hl) ?_
  rintro r st' ⟨rfl, rfl⟩
  conv => whnf
  repeat (refine rest_vc ?_; conv => whnf)
  refine awp_loop2 (n := 29) (α := Nat) (β := List Int) (fun k m => i ≤ k ∧ k ≤ 8 * l.length ∧ m.length = l.length ∧ frG (8 * l.length - k) k m = frontI l i) (fun k m => [(5, .vref 0 1), (6, vI .i64 k)]) (fun k m => [.vec 1 5 1 false (u8s m)]) (fun k m => 8 * l.length - k) i l (fun _ => 0)
    ⟨Nat.le_refl _, hi, rfl, rfl⟩ rfl ⟨rfl, rfl, trivial⟩ rfl (fun _ _ => rfl) (fun k m => ⟨Nat.zero_le _, rfl, rfl⟩) ?_
  rintro k m ⟨h1, h2, h3, h4⟩
  conv => whnf
  repeat (refine rest_vc ?_; conv => whnf)
  intro _
  conv => whnf
  repeat (refine rest_vc ?_; conv => whnf)
  split
  · rename_i h
    have hlt : k < 8 * l.length := by
      have := of_decide_eq_true h
      rw [u8s_len, w64 (by omega) (by omega)] at this
      omega
    have e1 : IntKind.i64.wrap ((k : Int).tdiv 8) = k / 8 := by rw [Int.tdiv_eq_ediv_of_nonneg (by omega), w64 (by omega) (by omega)]
    have e2 : IntKind.i64.wrap (7 - (k : Int).tmod 8) = 7 - k % 8 := by rw [Int.tmod_eq_emod_of_nonneg (by omega), w64 (by omega) (by omega)]
    conv => whnf
    repeat (refine rest_vc ?_; conv => whnf)
    refine hand_draw [11] (fun _ _ => True) rfl (by kernel_rfl) rfl ?_
    conv => whnf
    repeat (refine rest_vc ?_; conv => whnf)
    refine ⟨by decide, ?_⟩
    conv => whnf
    repeat (refine rest_vc ?_; conv => whnf)
    refine ⟨by rw [e1, u8s_len]; omega, ?_⟩
    conv => whnf
    repeat (refine rest_vc ?_; conv => whnf)
    refine ⟨by rw [e1, u8s_len]; omega, fun p hp => ?_⟩
    obtain ⟨rfl, hlt'⟩ := u8s_get hp
    conv => whnf
    repeat (refine rest_vc ?_; conv => whnf)
    refine ⟨by decide, ?_⟩
    conv => whnf
    repeat (refine rest_vc ?_; conv => whnf)
    refine ⟨by rw [e2]; omega, ?_⟩
    conv => whnf
    repeat (refine rest_vc ?_; conv => whnf)
    refine ⟨by rw [e1, u8s_len]; omega, ?_⟩
    conv => whnf
    repeat (refine rest_vc ?_; conv => whnf)
    refine ⟨by rw [e1, u8s_len]; omega, fun p hp => ?_⟩
    obtain ⟨rfl, hlt'⟩ := u8s_get hp
    conv => whnf
    repeat (refine rest_vc ?_; conv => whnf)
    have ev : u8s (clrI m k) = (u8s m).set (IntKind.i64.wrap ((k : Int).tdiv 8)).toNat (PV.val (.int .u8 (iAndNot .u8 (m.getD (IntKind.i64.wrap ((k : Int).tdiv 8)).toNat 0) (iShl .u8 1 (IntKind.i64.wrap (7 - (k : Int).tmod 8)))))) := by
      rw [e1, e2]
      simp only [u8s, clrI, List.map_set]
    refine ⟨k + 1, clrI m k, fun _ => 0, ⟨by omega, by omega, by rw [clrI_len]; exact h3, ?_⟩, by omega, rfl, ⟨rfl, congrArg (vI .i64) (by rw [w64 (by omega) (by omega)]; omega), trivial⟩, ?_, fun _ _ => rfl⟩
    · rw [← h4, show 8 * l.length - k = (8 * l.length - (k + 1)) + 1 by omega]
      rfl
    · show [Ob.vec 1 5 1 false _] = [Ob.vec 1 5 1 false _]
      rw [ev]
      rfl
  · rename_i h
    have hge : k = 8 * l.length := by
      have := of_decide_eq_false h
      rw [u8s_len, w64 (by omega) (by omega)] at this
      omega
    conv => whnf
    repeat (refine rest_vc ?_; conv => whnf)
    refine ⟨rfl, ?_⟩
    subst hge
    rw [Nat.sub_self] at h4
    have h4 : m = frontI l i := h4
    rw [← h4]
    rfl
end Go.Proofs.Ytlnmkolppgkglaa
