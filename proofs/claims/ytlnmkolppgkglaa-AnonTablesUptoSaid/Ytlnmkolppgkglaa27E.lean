/- law27: the tag of bytes, whole. -/
import Derived.Test.Ytlnmkolppgkglaa27D
import Derived.Test.YtlnmkolppgkglaaSyU
set_option linter.all false
set_option maxHeartbeats 4000000
set_option maxRecDepth 100000
namespace Go.Proofs.Ytlnmkolppgkglaa
open Go Go.RowKit Go.Sy Go.Proofs

def Mix.take (m : Mix) (v : Int) : Mix :=
  let n := (Mix.round (Mix.round ⟨m.a, m.b, m.c, xorI m.d v⟩))
  ⟨xorI n.a v, n.b, n.c, n.d⟩

theorem round_ok' (a b c d : Int) : CallOk Try.prog 61 [.ptr 0 0] [.cells 91 [vI .u64 a, vI .u64 b, vI .u64 c, vI .u64 d]] fun r st' => ∃ a' b' c' d', Mix.round ⟨a, b, c, d⟩ = ⟨a', b', c', d'⟩ ∧ r = .tup [] ∧ st' = [.cells 91 [vI .u64 a', vI .u64 b', vI .u64 c', vI .u64 d']] :=
  (round_ok a b c d).mono fun r st' h => ⟨_, _, _, _, rfl, h.1, h.2⟩

theorem take_ok (a b c d v : Int) : CallOk Try.prog 60 [.ptr 0 0, vI .u64 v] [.cells 91 [vI .u64 a, vI .u64 b, vI .u64 c, vI .u64 d]] fun r st' => ∃ a' b' c' d', Mix.take ⟨a, b, c, d⟩ v = ⟨a', b', c', d'⟩ ∧ r = .tup [] ∧ st' = [.cells 91 [vI .u64 a', vI .u64 b', vI .u64 c', vI .u64 d']] := by
  refine callOk_of false 1 Try.func60 rfl rfl (Nat.le_refl _) ?_
  conv => whnf
  repeat (refine rest_vc ?_; conv => whnf)
  refine .obj [0] [.ptr 0 0] [.cells 91 [vI .u64 a, vI .u64 b, vI .u64 c, vI .u64 (xorI d v)]] _ (by simp) (by simp) rfl rfl rfl rfl (round_ok' a b c (xorI d v)) ?_
  rintro r st' ⟨a1, b1, c1, d1, h1, rfl, rfl⟩
  conv => whnf
  repeat (refine rest_vc ?_; conv => whnf)
  refine .obj [0] [.ptr 0 0] [.cells 91 [vI .u64 a1, vI .u64 b1, vI .u64 c1, vI .u64 d1]] _ (by simp) (by simp) rfl rfl rfl rfl (round_ok' a1 b1 c1 d1) ?_
  rintro r st' ⟨a2, b2, c2, d2, h2, rfl, rfl⟩
  conv => whnf
  repeat (refine rest_vc ?_; conv => whnf)
  refine ⟨xorI a2 v, b2, c2, d2, ?_, rfl, rfl⟩
  unfold Mix.take
  simp only [h1, h2]

def tgG : Nat → Mix → List Int → Mix × List Int
  | 0, m, l => (m, l)
  | n + 1, m, l => tgG n (m.take (getI (l.take 8))) (l.drop 8)
/-- The last eight bytes: what is left, the length behind. -/
def endI (l : List Int) (n : Nat) : List Int := ((l ++ List.replicate (8 - l.length) 0).take 8).set 7 (IntKind.u8.wrap n)
def rounds : Nat → Mix → Mix
  | 0, m => m
  | n + 1, m => rounds n m.round
def fin4 (m : Mix) : Mix := Mix.round (Mix.round (Mix.round (Mix.round ⟨m.a, m.b, xorI m.c 255, m.d⟩)))
def outI (m : Mix) : List Int := putI (xorI (xorI (xorI m.a m.b) m.c) m.d)
def mix0 (k : List Int) : Mix := ⟨xorI 8317987319222330741 (getI (k.take 8)), xorI 7237128888997146477 (getI (k.drop 8)), xorI 7816392313619706465 (getI (k.take 8)), xorI 8387220255154660723 (getI (k.drop 8))⟩
def tagI (k b : List Int) : List Int := outI (fin4 ((tgG (b.length / 8) (mix0 k) b).1.take (getI (endI (tgG (b.length / 8) (mix0 k) b).2 b.length))))

theorem get_ok_of (nl : Bool) {xs : List PV} (l : List Int) (e : xs = u8s l) (hl : (l.length : Int) ≤ 100000) : CallOk Try.prog 59 [.pure (.list 1 nl xs), vB true] [] fun r st' => st' = [] ∧ r = vI .u64 (getI l) := by
  subst e
  exact get_ok nl l hl
theorem u8s_cut (l : List Int) (i n : Nat) : ((u8s l).drop i).take n = u8s ((l.drop i).take n) := by simp [u8s, List.map_take, List.map_drop]

theorem flat_u8s (l : List Int) : (u8s l).flatMap PV.cells = u8s l := by
  induction l with
  | nil => rfl
  | cons x l ih => show PV.cells _ ++ (u8s l).flatMap PV.cells = _; rw [ih]; rfl

theorem end_row (l : List Int) (n : Nat) (h : l.length < 8) :
    List.take (8 - 0) (List.drop (0 + 0) (setAt ((u8s (List.replicate 8 0)).take 0 ++ ((u8s l).take 8).flatMap PV.cells ++ (u8s (List.replicate 8 0)).drop (0 + min (u8s l).length 8)) (0 + 7) (PV.val (.int .u8 (IntKind.u8.wrap (n : Int)))).cells)) = u8s (endI l n) := by
  have e0 : (u8s l).take 8 = u8s l := List.take_of_length_le (by rw [u8s_len]; omega)
  have e : (l ++ List.replicate (8 - l.length) 0).take 8 = l ++ List.replicate (8 - l.length) 0 := List.take_of_length_le (by simp; omega)
  rw [e0, flat_u8s, u8s_len, Nat.min_eq_left (by omega)]
  unfold endI
  rw [e]
  show List.take (8 - 0) (List.drop (0 + 0) (setAt _ (0 + 7) [PV.val (.int .u8 (IntKind.u8.wrap (n : Int)))])) = _
  simp only [setAt, List.take_zero, List.nil_append, Nat.zero_add, List.drop_zero, Nat.sub_zero]
  simp only [u8s, List.map_set, List.map_append, List.map_replicate, List.drop_replicate]
  exact List.take_of_length_le (by simp; omega)

theorem tag_ok (nk nb : Bool) (k b : List Int) (hk : k.length = 16) (hb : (b.length : Int) ≤ 100000) : CallOk Try.prog 54 [bts nk k, bts nb b] [] fun r st' => st' = [] ∧ r = bts false (tagI k b) := by
  refine callOk_of true 0 Try.func54 rfl rfl (Nat.le_refl _) ?_
  conv => whnf
  repeat (refine rest_vc ?_; conv => whnf)
  refine hand_draw [] (fun i r => r = vI .u64 (if i = 2 then getI (k.take 8) else getI (k.drop 8))) rfl (by kernel_rfl) rfl ?_
  conv => whnf
  repeat (refine rest_vc ?_; conv => whnf)
  have hlk : (u8s k).length = 16 := by rw [u8s_len, hk]
  refine ⟨⟨by decide, by rw [hlk]; decide⟩, ?_⟩
  conv => whnf
  refine .draw ((get_ok_of nk (k.take 8) (by rw [u8s_cut]; rfl) (by simp; omega)).mono fun r st' h => h) rfl (.inl rfl) ?_
  rintro r rfl
  conv => whnf
  repeat (refine rest_vc ?_; conv => whnf)
  refine ⟨⟨by decide, by rw [hlk]; decide⟩, ?_⟩
  conv => whnf
  refine .draw ((get_ok_of nk (k.drop 8) (by rw [u8s_cut, u8s_len, hk, List.take_of_length_le (by simp; omega)]; rfl) (by simp; omega)).mono fun r st' h => h) rfl (.inl rfl) ?_
  rintro r rfl
  conv => whnf
  repeat (refine rest_vc ?_; conv => whnf)
  refine awp_loop2 (n := 65) (α := Mix) (β := List Int) (fun m l => tgG (l.length / 8) m l = tgG (b.length / 8) (mix0 k) b ∧ (l.length : Int) ≤ 100000) (fun m l => [(1, bts nb b), (7, .ptr 0 0), (8, bts nb l)]) (fun m l => [.cells 91 [vI .u64 m.a, vI .u64 m.b, vI .u64 m.c, vI .u64 m.d]]) (fun m l => l.length) (mix0 k) b (fun _ => 0)
    ⟨rfl, hb⟩ rfl ⟨rfl, rfl, rfl, trivial⟩ rfl (fun _ _ => rfl) (fun _ _ => ⟨Nat.zero_le _, rfl, rfl⟩) ?_
  rintro ⟨ma, mb, mc, md⟩ l ⟨hc, hl⟩
  conv => whnf
  repeat (refine rest_vc ?_; conv => whnf)
  intro _
  conv => whnf
  split
  · rename_i h
    have h := of_decide_eq_true h
    rw [u8s_len] at h
    conv => whnf
    repeat (refine rest_vc ?_; conv => whnf)
    refine ⟨⟨by decide, by rw [u8s_len]; omega⟩, ?_⟩
    conv => whnf
    repeat (refine rest_vc ?_; conv => whnf)
    refine .pure (fun r => r = vI .u64 (getI (l.take 8))) ((get_ok_of nb (l.take 8) (by rw [u8s_cut]; rfl) (by simp; omega)).mono fun r st' h => h) rfl (.inl rfl) ?_
    rintro r rfl
    conv => whnf
    refine .obj [0] [.ptr 0 0, vI .u64 (getI (l.take 8))] [.cells 91 [vI .u64 ma, vI .u64 mb, vI .u64 mc, vI .u64 md]] _ (by simp) (by simp) rfl rfl rfl rfl (take_ok ma mb mc md _) ?_
    rintro r st' ⟨a1, b1, c1, d1, h1, rfl, rfl⟩
    conv => whnf
    repeat (refine rest_vc ?_; conv => whnf)
    refine ⟨⟨by decide, by rw [u8s_len]; omega⟩, ?_⟩
    conv => whnf
    repeat (refine rest_vc ?_; conv => whnf)
    refine ⟨⟨a1, b1, c1, d1⟩, l.drop 8, fun _ => 0, ⟨?_, by simp; omega⟩, by simp; omega, rfl, ⟨rfl, rfl, ?_, trivial⟩, rfl, fun _ _ => rfl⟩
    · rw [← hc, ← h1, show l.length / 8 = ((l.drop 8).length / 8) + 1 by simp; omega]
      rfl
    · refine congrArg (fun l => SV.pure (.list 1 nb l)) ?_
      show ((u8s l).drop 8).take _ = _
      rw [u8s_cut, u8s_len, List.take_of_length_le (by simp)]
  · rename_i h
    have h := of_decide_eq_false h
    rw [u8s_len] at h
    rw [show l.length / 8 = 0 by omega] at hc
    have hc : (⟨ma, mb, mc, md⟩, l) = tgG (b.length / 8) (mix0 k) b := hc
    conv => whnf
    repeat (refine rest_vc ?_; conv => whnf)
    refine ⟨by decide, ?_⟩
    conv => whnf
    repeat (refine rest_vc ?_; conv => whnf)
    intro _
    conv => whnf
    repeat (refine rest_vc ?_; conv => whnf)
    refine ⟨by decide, ?_⟩
    conv => whnf
    refine ⟨by decide, ?_⟩
    conv => whnf
    repeat (refine rest_vc ?_; conv => whnf)
    refine ⟨by decide, ?_⟩
    conv => whnf
    refine .pure (fun r => r = vI .u64 (getI (endI l b.length))) ((get_ok_of false (endI l b.length) ?_ (by simp [endI]; omega)).mono fun r st' h => h) rfl (.inr (by rintro r rfl; rfl)) ?_
    · exact (end_row l (u8s b).length (by omega)).trans (by rw [u8s_len])
    rintro r rfl
    conv => whnf
    refine CallIn.o [0] (take_ok ma mb mc md _) (k := ?_)
    rintro r st' ⟨a1, b1, c1, d1, h1, rfl, rfl⟩
    conv => whnf
    repeat (first | (refine rest_vc ?_; conv => whnf) | (refine ⟨by decide, ?_⟩; conv => whnf))
    refine awp_loop2 (n := 65) (α := Nat) (β := Mix) (fun i m => i ≤ 4 ∧ (rounds (4 - i) m) = fin4 ⟨a1, b1, c1, d1⟩) (fun i m => [(7, .ptr 0 0), (49, vI .i64 i)]) (fun i m => [.cells 91 [vI .u64 m.a, vI .u64 m.b, vI .u64 m.c, vI .u64 m.d]]) (fun i m => 4 - i) 0 ⟨a1, b1, xorI c1 255, d1⟩ (fun _ => 0)
      ⟨by decide, rfl⟩ rfl ⟨rfl, rfl, trivial⟩ rfl (fun _ _ => rfl) (fun _ _ => ⟨Nat.zero_le _, rfl, rfl⟩) ?_
    rintro i ⟨ma', mb', mc', md'⟩ ⟨hi, hm⟩
    conv => whnf
    repeat (first | (refine rest_vc ?_; conv => whnf) | (refine ⟨by decide, ?_⟩; conv => whnf))
    split
    · rename_i h
      have h := of_decide_eq_true h
      conv => whnf
      repeat (first | (refine rest_vc ?_; conv => whnf) | (refine ⟨by decide, ?_⟩; conv => whnf))
      refine CallIn.o [0] (round_ok' ma' mb' mc' md') (k := ?_)
      rintro r st' ⟨a2, b2, c2, d2, h2, rfl, rfl⟩
      conv => whnf
      repeat (first | (refine rest_vc ?_; conv => whnf) | (refine ⟨by decide, ?_⟩; conv => whnf))
      refine ⟨i + 1, ⟨a2, b2, c2, d2⟩, fun _ => 0, ⟨by omega, ?_⟩, by omega, rfl, ⟨rfl, congrArg (vI .i64) (by rw [w64 (by omega) (by omega)]; omega), trivial⟩, rfl, fun _ _ => rfl⟩
      rw [← hm, ← h2, show 4 - i = (4 - (i + 1)) + 1 by omega]
      rfl
    · rename_i h
      have h := of_decide_eq_false h
      have : i = 4 := by omega
      subst this
      have hm : (⟨ma', mb', mc', md'⟩ : Mix) = fin4 ⟨a1, b1, c1, d1⟩ := hm
      conv => whnf
      repeat (first | (refine rest_vc ?_; conv => whnf) | (refine ⟨by decide, ?_⟩; conv => whnf))
      refine CallIn.to (put_ok _) (k := ?_)
      conv => whnf
      repeat (first | (refine rest_vc ?_; conv => whnf) | (refine ⟨by decide, ?_⟩; conv => whnf))
      refine ⟨rfl, congrArg (bts false) ?_⟩
      unfold tagI
      rw [← hc, h1, ← hm]
      rfl
end Go.Proofs.Ytlnmkolppgkglaa
