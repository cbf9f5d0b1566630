/- law27: the reference's tag. -/
import Derived.Test.Ytlnmkolppgkglaa27J
set_option linter.all false
set_option maxHeartbeats 4000000
set_option maxRecDepth 100000
namespace Go.Proofs.Ytlnmkolppgkglaa
open Go Go.RowKit Go.Sy Go.Proofs

theorem left_ok (v : Int) (n : Nat) (hn : n < 64) : CallOk Try.prog 81 [vI .u64 v, vI .i64 n] [] fun r st' => st' = [] ∧ r = vI .u64 (rotI v n) := by
  refine callOk_of true 0 Try.func81 rfl rfl (Nat.le_refl _) ?_
  have e2 : IntKind.i64.wrap (64 - (n : Int)) = ((64 - n : Nat) : Int) := by rw [w64 (by omega) (by omega)]; omega
  conv => whnf
  repeat (first | (refine rest_vc ?_; conv => whnf) | (refine ⟨by decide, ?_⟩; conv => whnf))
  refine hand_draw [] (fun _ _ => True) rfl (by kernel_rfl) rfl ?_
  conv => whnf
  repeat (first | (refine rest_vc ?_; conv => whnf) | (refine ⟨by decide, ?_⟩; conv => whnf))
  refine ⟨by omega, ?_⟩
  conv => whnf
  repeat (first | (refine rest_vc ?_; conv => whnf) | (refine ⟨by decide, ?_⟩; conv => whnf))
  refine ⟨by (rw [e2]; omega), ?_⟩
  conv => whnf
  repeat (first | (refine rest_vc ?_; conv => whnf) | (refine ⟨by decide, ?_⟩; conv => whnf))
  refine ⟨rfl, congrArg (vI .u64) ?_⟩
  unfold rotI
  rw [e2]

theorem rround_ok (a b c d : Int) : CallOk Try.prog 74 [.ptr 0 0] [.cells 107 [vI .u64 a, vI .u64 b, vI .u64 c, vI .u64 d]] fun r st' => ∃ a' b' c' d', Mix.round ⟨a, b, c, d⟩ = ⟨a', b', c', d'⟩ ∧ r = .tup [] ∧ st' = [.cells 107 [vI .u64 a', vI .u64 b', vI .u64 c', vI .u64 d']] := by
  refine callOk_of false 1 Try.func74 rfl rfl (Nat.le_refl _) ?_
  conv => whnf
  repeat (first | (refine rest_vc ?_; conv => whnf) | (refine ⟨by decide, ?_⟩; conv => whnf))
  refine hand_draw [11] (fun _ _ => True) rfl (by kernel_rfl) rfl ?_
  conv => whnf
  repeat (first | (refine rest_vc ?_; conv => whnf) | (refine ⟨by decide, ?_⟩; conv => whnf))
  refine hand_draw [13] (fun _ r => r = vI .u64 (rotI b 13)) rfl (by kernel_rfl) rfl ?_
  conv => whnf
  repeat (first | (refine rest_vc ?_; conv => whnf) | (refine ⟨by decide, ?_⟩; conv => whnf))
  refine CallIn.dto (left_ok b 13 (by decide)) (k := ?_)
  conv => whnf
  repeat (first | (refine rest_vc ?_; conv => whnf) | (refine ⟨by decide, ?_⟩; conv => whnf))
  refine hand_draw [8] (fun _ r => r = vI .u64 (rotI (addI a b) 32)) rfl (by kernel_rfl) rfl ?_
  conv => whnf
  repeat (first | (refine rest_vc ?_; conv => whnf) | (refine ⟨by decide, ?_⟩; conv => whnf))
  refine CallIn.dto (left_ok (addI a b) 32 (by decide)) (k := ?_)
  conv => whnf
  repeat (first | (refine rest_vc ?_; conv => whnf) | (refine ⟨by decide, ?_⟩; conv => whnf))
  refine hand_draw [11] (fun _ _ => True) rfl (by kernel_rfl) rfl ?_
  conv => whnf
  repeat (first | (refine rest_vc ?_; conv => whnf) | (refine ⟨by decide, ?_⟩; conv => whnf))
  refine hand_draw [13] (fun _ r => r = vI .u64 (rotI d 16)) rfl (by kernel_rfl) rfl ?_
  conv => whnf
  repeat (first | (refine rest_vc ?_; conv => whnf) | (refine ⟨by decide, ?_⟩; conv => whnf))
  refine CallIn.dto (left_ok d 16 (by decide)) (k := ?_)
  conv => whnf
  repeat (first | (refine rest_vc ?_; conv => whnf) | (refine ⟨by decide, ?_⟩; conv => whnf))
  refine hand_draw [11] (fun _ _ => True) rfl (by kernel_rfl) rfl ?_
  conv => whnf
  repeat (first | (refine rest_vc ?_; conv => whnf) | (refine ⟨by decide, ?_⟩; conv => whnf))
  refine hand_draw [13] (fun _ r => r = vI .u64 (rotI (d1 c d) 21)) rfl (by kernel_rfl) rfl ?_
  conv => whnf
  repeat (first | (refine rest_vc ?_; conv => whnf) | (refine ⟨by decide, ?_⟩; conv => whnf))
  refine CallIn.dto (left_ok (d1 c d) 21 (by decide)) (k := ?_)
  conv => whnf
  repeat (first | (refine rest_vc ?_; conv => whnf) | (refine ⟨by decide, ?_⟩; conv => whnf))
  refine hand_draw [11] (fun _ _ => True) rfl (by kernel_rfl) rfl ?_
  conv => whnf
  repeat (first | (refine rest_vc ?_; conv => whnf) | (refine ⟨by decide, ?_⟩; conv => whnf))
  refine hand_draw [13] (fun _ r => r = vI .u64 (rotI (b1 a b) 17)) rfl (by kernel_rfl) rfl ?_
  conv => whnf
  repeat (first | (refine rest_vc ?_; conv => whnf) | (refine ⟨by decide, ?_⟩; conv => whnf))
  refine CallIn.dto (left_ok (b1 a b) 17 (by decide)) (k := ?_)
  conv => whnf
  repeat (first | (refine rest_vc ?_; conv => whnf) | (refine ⟨by decide, ?_⟩; conv => whnf))
  refine hand_draw [8] (fun _ r => r = vI .u64 (rotI (c2 a b c d) 32)) rfl (by kernel_rfl) rfl ?_
  conv => whnf
  repeat (first | (refine rest_vc ?_; conv => whnf) | (refine ⟨by decide, ?_⟩; conv => whnf))
  refine CallIn.dto (left_ok (c2 a b c d) 32 (by decide)) (k := ?_)
  conv => whnf
  repeat (first | (refine rest_vc ?_; conv => whnf) | (refine ⟨by decide, ?_⟩; conv => whnf))
  exact ⟨_, _, _, _, rfl, rfl, rfl⟩

theorem long_ok (nl : Bool) {xs : List PV} (l : List Int) (e : xs = u8s l) (hl : l.length = 8) : CallOk Try.prog 73 [.pure (.list 1 nl xs)] [] fun r st' => st' = [] ∧ r = vI .u64 (getI l) := by
  subst e
  unfold getI
  rw [hl]
  refine callOk_of true 0 Try.func73 rfl rfl (Nat.le_refl _) ?_
  conv => whnf
  repeat (first | (refine rest_vc ?_; conv => whnf) | (refine ⟨by decide, ?_⟩; conv => whnf))
  refine awp_loop2 (n := 18) (α := Nat) (β := Int) (fun k n => k ≤ 8 ∧ gtG l k n = gtG l 8 0) (fun k n => [(0, bts nl l), (3, vI .u64 n), (4, vI .i64 ((k : Int) - 1))]) (fun _ _ => []) (fun k _ => k) 8 0 (fun _ => 0)
    ⟨Nat.le_refl _, rfl⟩ rfl ⟨rfl, rfl, rfl, trivial⟩ rfl (fun _ _ => rfl) (fun _ _ => ⟨Nat.le_refl _, rfl, rfl⟩) ?_
  rintro k n ⟨hk, hc⟩
  conv => whnf
  repeat (first | (refine rest_vc ?_; conv => whnf) | (refine ⟨by decide, ?_⟩; conv => whnf))
  split <;> rename_i h <;> (conv => whnf) <;> repeat (first | (refine rest_vc ?_; conv => whnf) | (refine ⟨by decide, ?_⟩; conv => whnf))
  · have h := of_decide_eq_true h
    refine ⟨by rw [u8s_len]; omega, fun p hp => ?_⟩
    obtain ⟨rfl, hlt⟩ := u8s_get hp
    conv => whnf
    repeat (first | (refine rest_vc ?_; conv => whnf) | (refine ⟨by decide, ?_⟩; conv => whnf))
    refine ⟨k - 1, _, fun _ => 0, ⟨by omega, ?_⟩, by omega, rfl, ⟨rfl, rfl, congrArg (vI .i64) (by rw [w64 (by omega) (by omega)]; omega), trivial⟩, rfl, fun _ _ => rfl⟩
    rw [← hc, show gtG l k n = gtG l (k - 1 + 1) n by rw [show k - 1 + 1 = k by omega], show ((k : Int) - 1).toNat = k - 1 by omega]
    rfl
  · have h := of_decide_eq_false h
    refine ⟨rfl, congrArg (vI .u64) ?_⟩
    rw [← hc, show k = 0 by omega]
    rfl

/-- The words of a block of eight: filled up, with the length where it is short. -/
def blkI (l : List Int) (n : Nat) : List Int := if l.length < 8 then endI l n else l.take 8
theorem blkI_len (l : List Int) (n : Nat) : (blkI l n).length = 8 := by
  unfold blkI
  split
  · unfold endI; simp; omega
  · simp; omega

theorem fill_long (l : List Int) (n : Nat) (h : ¬ l.length < 8) : (u8s l).take (u8s (List.replicate 8 0)).length ++ (u8s (List.replicate 8 0)).drop (min (u8s l).length (u8s (List.replicate 8 0)).length) = u8s (blkI l n) := by
  unfold blkI
  rw [if_neg h]
  simp only [u8s, List.length_map, List.length_replicate, List.map_replicate, List.drop_replicate, List.map_take]
  rw [show 8 - min l.length 8 = 0 by omega]
  simp
theorem fill_short (l : List Int) (n : Nat) (h : l.length < 8) : ((u8s l).take (u8s (List.replicate 8 0)).length ++ (u8s (List.replicate 8 0)).drop (min (u8s l).length (u8s (List.replicate 8 0)).length)).set 7 (.val (.int .u8 (IntKind.u8.wrap n))) = u8s (blkI l n) := by
  unfold blkI endI
  rw [if_pos h]
  have e : (l ++ List.replicate (8 - l.length) 0).take 8 = l ++ List.replicate (8 - l.length) 0 := List.take_of_length_le (by simp; omega)
  rw [e]
  simp only [u8s, List.length_map, List.length_replicate, List.map_replicate, List.drop_replicate, List.map_append, List.map_set]
  rw [List.take_of_length_le (by simp; omega), show min l.length 8 = l.length by omega]

theorem wx_eq {X : List PV} {l : List Int} (e : X = u8s l) : X.take (List.replicate 8 (ofV (.int .u8 0))).length ++ (List.replicate 8 (ofV (.int .u8 0))).drop (min X.length (List.replicate 8 (ofV (.int .u8 0))).length) = u8s ((l ++ List.replicate (8 - l.length) 0).take 8) := by
  subst e
  have e1 : List.replicate 8 (ofV (.int .u8 0)) = u8s (List.replicate 8 0) := rfl
  rw [e1]
  simp only [u8s, List.length_map, List.length_replicate, List.map_replicate, List.drop_replicate, List.map_take, List.map_append]
  rw [List.take_append, List.length_map]
  by_cases h : l.length ≤ 8
  · rw [Nat.min_eq_left h, List.take_of_length_le (l := List.map _ l) (by simpa using h), List.take_of_length_le (l := List.replicate _ _) (by simp)]
  · rw [Nat.min_eq_right (by omega), show 8 - l.length = 0 by omega, Nat.sub_self]
    simp

theorem wx_short {X : List PV} {l : List Int} (e : X = u8s l) (n : Nat) (h : l.length < 8) :
    (X.take (List.replicate 8 (ofV (.int .u8 0))).length ++ (List.replicate 8 (ofV (.int .u8 0))).drop (min X.length (List.replicate 8 (ofV (.int .u8 0))).length)).set 7 (.val (.int .u8 (IntKind.u8.wrap (n : Int)))) = u8s (blkI l n) := by
  rw [wx_eq e]
  unfold blkI endI
  rw [if_pos h]
  simp [u8s, List.map_set]
theorem wx_long {X : List PV} {l : List Int} (e : X = u8s l) (n : Nat) (h : ¬ l.length < 8) :
    (X.take (List.replicate 8 (ofV (.int .u8 0))).length ++ (List.replicate 8 (ofV (.int .u8 0))).drop (min X.length (List.replicate 8 (ofV (.int .u8 0))).length)) = u8s (blkI l n) := by
  rw [wx_eq e]
  unfold blkI
  rw [if_neg h, List.take_append_of_le_length (by omega)]
/-- One block taken. -/
theorem tgG_long {m : Mix} {l : List Int} (n : Nat) (h : ¬ l.length < 8) : tgG (l.length / 8) m l = tgG ((l.drop 8).length / 8) (m.take (getI (blkI l n))) (l.drop 8) := by
  unfold blkI
  rw [if_neg h, show l.length / 8 = ((l.drop 8).length / 8) + 1 by simp; omega]
  rfl

theorem rtag_ok (nk nb : Bool) (k b : List Int) (hk : k.length = 16) (hb : (b.length : Int) ≤ 100000) : CallOk Try.prog 58 [bts nk k, bts nb b] [] fun r st' => st' = [] ∧ r = bts false (tagI k b) := by
  have hlk : (u8s k).length = 16 := by rw [u8s_len, hk]
  have c1 := long_ok nk (xs := ((u8s k).drop 0).take (8 - 0)) (k.take 8) (by rw [u8s_cut]; rfl) (by simp; omega)
  have c2 := long_ok nk (xs := ((u8s k).drop 8).take ((u8s k).length - 8)) (k.drop 8) (by rw [u8s_cut, u8s_len, hk, List.take_of_length_le (by simp; omega)]) (by simp; omega)
  refine callOk_of true 0 Try.func58 rfl rfl (Nat.le_refl _) ?_
  conv => whnf
  repeat (first | (refine rest_vc ?_; conv => whnf) | (refine ⟨by decide, ?_⟩; conv => whnf))
  refine hand_draw [] (fun i r => r = vI .u64 (if i = 2 then getI (k.take 8) else getI (k.drop 8))) rfl (by kernel_rfl) rfl ?_
  conv => whnf
  repeat (first | (refine rest_vc ?_; conv => whnf) | (refine ⟨by decide, ?_⟩; conv => whnf))
  refine ⟨⟨by decide, by rw [hlk]; decide⟩, ?_⟩
  conv => whnf
  repeat (first | (refine rest_vc ?_; conv => whnf) | (refine ⟨by decide, ?_⟩; conv => whnf))
  refine CallIn.dto (c1) (k := ?_)
  conv => whnf
  repeat (first | (refine rest_vc ?_; conv => whnf) | (refine ⟨by decide, ?_⟩; conv => whnf))
  refine ⟨⟨by decide, by rw [hlk]; decide⟩, ?_⟩
  conv => whnf
  repeat (first | (refine rest_vc ?_; conv => whnf) | (refine ⟨by decide, ?_⟩; conv => whnf))
  refine CallIn.dto (c2) (k := ?_)
  conv => whnf
  repeat (first | (refine rest_vc ?_; conv => whnf) | (refine ⟨by decide, ?_⟩; conv => whnf))
  refine awp_loop2 (n := 95) (α := Mix) (β := Nat) (fun m j => 8 * j ≤ b.length ∧ tgG ((b.drop (8 * j)).length / 8) m (b.drop (8 * j)) = tgG (b.length / 8) (mix0 k) b)
    (fun m j => [(1, bts nb b), (7, .ptr 0 0), (8, vI .i64 (8 * j : Nat))]) (fun m j => [.cells 107 [vI .u64 m.a, vI .u64 m.b, vI .u64 m.c, vI .u64 m.d]]) (fun m j => b.length - 8 * j) (mix0 k) 0 (fun _ => 0)
    ⟨Nat.zero_le _, rfl⟩ rfl ⟨rfl, rfl, rfl, trivial⟩ rfl (fun _ _ => rfl) (fun _ _ => ⟨Nat.zero_le _, rfl, rfl⟩) ?_
  rintro ⟨ma, mb, mc, md⟩ j ⟨hj, hc⟩
  conv => whnf
  repeat (first | (refine rest_vc ?_; conv => whnf) | (refine ⟨by decide, ?_⟩; conv => whnf))
  refine ⟨⟨by omega, by rw [u8s_len]; omega⟩, ?_⟩
  conv => whnf
  repeat (first | (refine rest_vc ?_; conv => whnf) | (refine ⟨by decide, ?_⟩; conv => whnf))
  have exs : ((u8s b).drop ((8 * j : Nat) : Int).toNat).take ((u8s b).length - ((8 * j : Nat) : Int).toNat) = u8s (b.drop (8 * j)) := by
    rw [Int.toNat_natCast, u8s_cut, u8s_len, List.take_of_length_le (by simp)]
  have hlen : (b.drop (8 * j)).length = b.length - 8 * j := by simp
  have hlx : (((u8s b).drop ((8 * j : Nat) : Int).toNat).take ((u8s b).length - ((8 * j : Nat) : Int).toNat)).length = b.length - 8 * j := by rw [exs, u8s_len, hlen]
  obtain ⟨V, hV⟩ : ∃ V, V = getI (blkI (b.drop (8 * j)) (u8s b).length) := ⟨_, rfl⟩
  have c3 : ∀ xs : List PV, xs = u8s (blkI (b.drop (8 * j)) (u8s b).length) → CallOk Try.prog 73 [.pure (.list 1 false xs)] [] fun r st' => st' = [] ∧ r = vI .u64 V := fun xs e => by
    have := long_ok false (blkI (b.drop (8 * j)) (u8s b).length) e (blkI_len _ _)
    rw [← hV] at this
    exact this
  split <;> rename_i hB <;> (conv => whnf) <;> repeat (first | (refine rest_vc ?_; conv => whnf) | (refine ⟨by decide, ?_⟩; conv => whnf))
  · have h := of_decide_eq_true hB
    have h : min (b.length - 8 * j) 8 < 8 := by
      have h : ((min (((u8s b).drop ((8 * j : Nat) : Int).toNat).take ((u8s b).length - ((8 * j : Nat) : Int).toNat)).length 8 : Nat) : Int) < 8 := h
      rw [hlx] at h
      omega
    intro _
    conv => whnf
    repeat (first | (refine rest_vc ?_; conv => whnf) | (refine ⟨by decide, ?_⟩; conv => whnf))
    refine ⟨⟨by omega, ?_⟩, ?_⟩
    · show (7 : Int) < ((((u8s b).drop ((8 * j : Nat) : Int).toNat).take ((u8s b).length - ((8 * j : Nat) : Int).toNat)).take 8 ++ (List.replicate 8 _).drop (min _ 8)).length
      rw [List.length_append, List.length_take, List.length_drop, List.length_replicate, hlx]
      omega
    conv => whnf
    repeat (first | (refine rest_vc ?_; conv => whnf) | (refine ⟨by decide, ?_⟩; conv => whnf))
    refine ⟨?_, fun p hp => ?_⟩
    · show 7 < ((((u8s b).drop ((8 * j : Nat) : Int).toNat).take ((u8s b).length - ((8 * j : Nat) : Int).toNat)).take 8 ++ (List.replicate 8 _).drop (min _ 8)).length
      rw [List.length_append, List.length_take, List.length_drop, List.length_replicate, hlx]
      omega
    have hp' := (congrArg (fun L : List PV => L[7]?) (wx_eq exs)).symm.trans hp
    obtain ⟨rfl, _⟩ := u8s_get hp'
    conv => whnf
    repeat (first | (refine rest_vc ?_; conv => whnf) | (refine ⟨by decide, ?_⟩; conv => whnf))
    refine CallIn.tox (c3 _ (wx_short exs (u8s b).length (by omega))) (k := ?_)
    conv => whnf
    repeat (first | (refine rest_vc ?_; conv => whnf) | (refine ⟨by decide, ?_⟩; conv => whnf))
    have hfin : tagI k b = outI (fin4 (Mix.take ⟨ma, mb, mc, md⟩ V)) := by
      have e0 : (b.drop (8 * j)).length / 8 = 0 := by omega
      rw [e0] at hc
      have hc : (⟨ma, mb, mc, md⟩, b.drop (8 * j)) = tgG (b.length / 8) (mix0 k) b := hc
      unfold tagI
      rw [← hc, hV, u8s_len]
      unfold blkI
      rw [if_pos (by omega)]
    obtain ⟨T, hT⟩ : ∃ T, T = tagI k b := ⟨_, rfl⟩
    rw [← hT] at hfin ⊢
    refine CallIn.o [0] (rround_ok ma mb mc (xorI md V)) (k := ?_)
    rintro r st' ⟨a1, b1, c1, d1, h1, rfl, rfl⟩
    conv => whnf
    repeat (first | (refine rest_vc ?_; conv => whnf) | (refine ⟨by decide, ?_⟩; conv => whnf))
    refine CallIn.o [0] (rround_ok a1 b1 c1 d1) (k := ?_)
    rintro r st' ⟨a2, b2, c2, d2, h2, rfl, rfl⟩
    conv => whnf
    repeat (first | (refine rest_vc ?_; conv => whnf) | (refine ⟨by decide, ?_⟩; conv => whnf))
    have htk : Mix.take ⟨ma, mb, mc, md⟩ V = ⟨xorI a2 V, b2, c2, d2⟩ := by
      unfold Mix.take
      simp only [h1, h2]
    rw [htk] at hfin
    split
    · conv => whnf
      repeat (first | (refine rest_vc ?_; conv => whnf) | (refine ⟨by decide, ?_⟩; conv => whnf))
      refine awp_loop2 (n := 95) (α := Nat) (β := Mix) (fun i m => i ≤ 4 ∧ (rounds (4 - i) m) = fin4 ⟨xorI a2 V, b2, c2, d2⟩) (fun i m => [(7, .ptr 0 0), (12, vI .i64 i)]) (fun i m => [.cells 107 [vI .u64 m.a, vI .u64 m.b, vI .u64 m.c, vI .u64 m.d]]) (fun i m => 4 - i) 0 ⟨xorI a2 V, b2, xorI c2 255, d2⟩ (fun _ => 0)
        ⟨by decide, rfl⟩ rfl ⟨rfl, rfl, trivial⟩ rfl (fun _ _ => rfl) (fun _ _ => ⟨Nat.zero_le _, rfl, rfl⟩) ?_
      rintro i ⟨ma', mb', mc', md'⟩ ⟨hi, hm⟩
      conv => whnf
      repeat (first | (refine rest_vc ?_; conv => whnf) | (refine ⟨by decide, ?_⟩; conv => whnf))
      split <;> rename_i h6 <;> (conv => whnf) <;> repeat (first | (refine rest_vc ?_; conv => whnf) | (refine ⟨by decide, ?_⟩; conv => whnf))
      · have h6 := of_decide_eq_true h6
        refine CallIn.o [0] (rround_ok ma' mb' mc' md') (k := ?_)
        rintro r st' ⟨a3, b3, c3, d3, h3, rfl, rfl⟩
        conv => whnf
        repeat (first | (refine rest_vc ?_; conv => whnf) | (refine ⟨by decide, ?_⟩; conv => whnf))
        refine ⟨i + 1, ⟨a3, b3, c3, d3⟩, fun _ => 0, ⟨by omega, ?_⟩, by omega, rfl, ⟨rfl, congrArg (vI .i64) (by rw [w64 (by omega) (by omega)]; omega), trivial⟩, rfl, fun _ _ => rfl⟩
        rw [← hm, ← h3, show 4 - i = (4 - (i + 1)) + 1 by omega]
        rfl
      · have h6 := of_decide_eq_false h6
        have : i = 4 := by omega
        subst this
        have hm : (⟨ma', mb', mc', md'⟩ : Mix) = fin4 ⟨xorI a2 V, b2, c2, d2⟩ := hm
        rw [← hm] at hfin
        obtain ⟨Z, hZ⟩ : ∃ Z, Z = xorI (xorI (xorI ma' mb') mc') md' := ⟨_, rfl⟩
        have hfin : T = putI Z := by rw [hfin, hZ]; rfl
        refine hand_ghost 14 5 1 rfl ?_
        refine awp_loop (n := 95) (α := Nat) (fun i => i ≤ 8) (fun i => [(13, vI .u64 Z), (14, .vref 1 0), (15, vI .i64 i)])
          (fun i => [.cells 107 [vI .u64 ma', vI .u64 mb', vI .u64 mc', vI .u64 md'], .vec 0 5 1 (u8s ((List.range i).map fun i => IntKind.u8.wrap (shrI Z (8 * i : Nat)))).isEmpty (u8s ((List.range i).map fun i => IntKind.u8.wrap (shrI Z (8 * i : Nat))))]) (fun i => 8 - i) 0 (fun _ => 0)
          (by decide) rfl ⟨congrArg (vI .u64) hZ.symm, rfl, rfl, trivial⟩ rfl (fun _ _ => rfl) (fun _ => ⟨Nat.zero_le _, rfl, rfl⟩) ?_
        intro i hi
        conv => whnf
        repeat (first | (refine rest_vc ?_; conv => whnf) | (refine ⟨by decide, ?_⟩; conv => whnf))
        split <;> rename_i h7 <;> (conv => whnf) <;> repeat (first | (refine rest_vc ?_; conv => whnf) | (refine ⟨by decide, ?_⟩; conv => whnf))
        · have h7 := of_decide_eq_true h7
          have e2 : IntKind.i64.wrap (8 * (i : Int)) = ((8 * i : Nat) : Int) := by rw [w64 (by omega) (by omega)]; omega
          refine ⟨by (rw [e2]; omega), ?_⟩
          conv => whnf
          repeat (first | (refine rest_vc ?_; conv => whnf) | (refine ⟨by decide, ?_⟩; conv => whnf))
          refine ⟨by (show (_ + 1) * 1 ≤ _; rw [u8s_len]; simp; omega), ?_⟩
          conv => whnf
          repeat (first | (refine rest_vc ?_; conv => whnf) | (refine ⟨by decide, ?_⟩; conv => whnf))
          refine ⟨i + 1, fun _ => 1, by omega, by omega, rfl, ⟨rfl, rfl, congrArg (vI .i64) (by rw [w64 (by omega) (by omega)]; omega), trivial⟩, ?_, fun o h => by cases h⟩
          rw [List.range_succ, List.map_append, List.map_cons, List.map_nil, ← append_byte, ← isEmpty_snoc (u8s ((List.range i).map fun i => IntKind.u8.wrap (shrI Z (8 * i : Nat)))).isEmpty, ← e2]
          rfl
        · have h7 := of_decide_eq_false h7
          have : i = 8 := by omega
          subst this
          refine ⟨rfl, ?_⟩
          rw [hfin]
          rfl
    · rename_i hh
      exact absurd (hB.symm.trans hh) (by decide)
  · have h := of_decide_eq_false hB
    have h : ¬ b.length - 8 * j < 8 := by
      have h : ¬ ((min (((u8s b).drop ((8 * j : Nat) : Int).toNat).take ((u8s b).length - ((8 * j : Nat) : Int).toNat)).length 8 : Nat) : Int) < 8 := h
      rw [hlx] at h
      omega
    refine CallIn.tox (c3 _ (wx_long exs (u8s b).length (by omega))) (k := ?_)
    conv => whnf
    repeat (first | (refine rest_vc ?_; conv => whnf) | (refine ⟨by decide, ?_⟩; conv => whnf))
    have hfin : tgG ((b.drop (8 * (j + 1))).length / 8) (Mix.take ⟨ma, mb, mc, md⟩ V) (b.drop (8 * (j + 1))) = tgG (b.length / 8) (mix0 k) b := by
      have := tgG_long (m := ⟨ma, mb, mc, md⟩) (l := b.drop (8 * j)) (u8s b).length (by omega)
      rw [List.drop_drop, ← hV, show 8 * j + 8 = 8 * (j + 1) by omega] at this
      exact this.symm.trans hc
    obtain ⟨T, hT⟩ : ∃ T, T = tagI k b := ⟨_, rfl⟩
    rw [← hT]
    refine CallIn.o [0] (rround_ok ma mb mc (xorI md V)) (k := ?_)
    rintro r st' ⟨a1, b1, c1, d1, h1, rfl, rfl⟩
    conv => whnf
    repeat (first | (refine rest_vc ?_; conv => whnf) | (refine ⟨by decide, ?_⟩; conv => whnf))
    refine CallIn.o [0] (rround_ok a1 b1 c1 d1) (k := ?_)
    rintro r st' ⟨a2, b2, c2, d2, h2, rfl, rfl⟩
    conv => whnf
    repeat (first | (refine rest_vc ?_; conv => whnf) | (refine ⟨by decide, ?_⟩; conv => whnf))
    have htk : Mix.take ⟨ma, mb, mc, md⟩ V = ⟨xorI a2 V, b2, c2, d2⟩ := by
      unfold Mix.take
      simp only [h1, h2]
    rw [htk] at hfin
    split
    · rename_i hh
      exact absurd (hB.symm.trans hh) (by decide)
    · conv => whnf
      repeat (first | (refine rest_vc ?_; conv => whnf) | (refine ⟨by decide, ?_⟩; conv => whnf))
      refine ⟨⟨xorI a2 V, b2, c2, d2⟩, j + 1, fun _ => 0, ⟨by omega, hfin⟩, by omega, rfl, ⟨rfl, rfl, congrArg (vI .i64) (by rw [w64 (by omega) (by omega)]; omega), trivial⟩, rfl, fun _ _ => rfl⟩

theorem rTag_ok (nk nb : Bool) (k b : List Int) (hk : k.length = 16) (hb : (b.length : Int) ≤ 100000) : CallOk Try.prog 53 [bts nk k, bts nb b] [] fun r st' => st' = [] ∧ r = .tup [bts false (tagI k b), vI .i64 0] := by
  have c1 := rtag_ok nk nb k b hk hb
  obtain ⟨T, hT⟩ : ∃ T, T = tagI k b := ⟨_, rfl⟩
  rw [← hT] at c1 ⊢
  refine callOk_of true 0 Try.func53 rfl rfl (Nat.le_refl _) ?_
  conv => whnf
  repeat (first | (refine rest_vc ?_; conv => whnf) | (refine ⟨by decide, ?_⟩; conv => whnf))
  intro _
  conv => whnf
  repeat (first | (refine rest_vc ?_; conv => whnf) | (refine ⟨by decide, ?_⟩; conv => whnf))
  split <;> rename_i h <;> (conv => whnf) <;> repeat (first | (refine rest_vc ?_; conv => whnf) | (refine ⟨by decide, ?_⟩; conv => whnf))
  · rw [u8s_len, hk] at h
    cases h
  · intro _
    conv => whnf
    repeat (first | (refine rest_vc ?_; conv => whnf) | (refine ⟨by decide, ?_⟩; conv => whnf))
    split <;> rename_i h2 <;> (conv => whnf) <;> repeat (first | (refine rest_vc ?_; conv => whnf) | (refine ⟨by decide, ?_⟩; conv => whnf))
    · have := of_decide_eq_true h2
      rw [u8s_len] at this
      omega
    · refine CallIn.to (c1) (k := ?_)
      conv => whnf
      repeat (first | (refine rest_vc ?_; conv => whnf) | (refine ⟨by decide, ?_⟩; conv => whnf))
      exact ⟨rfl, rfl⟩
end Go.Proofs.Ytlnmkolppgkglaa
