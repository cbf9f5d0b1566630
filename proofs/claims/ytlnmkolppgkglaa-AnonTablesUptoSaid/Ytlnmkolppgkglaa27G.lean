/- law27: addresses mapped; what is asked ahead. -/
import Derived.Test.Ytlnmkolppgkglaa27F
set_option linter.all false
set_option maxHeartbeats 4000000
set_option maxRecDepth 100000
namespace Go.Proofs.Ytlnmkolppgkglaa
open Go Go.RowKit Go.Sy Go.Proofs

def mpG (k : List Int) (keep : List K) (a : List Int) : Nat → Nat → List Int → List Int
  | 0, _, o => o
  | m + 1, i, o => mpG k keep a m (i + 1) (if turnB k keep a i then flipI o i else o)
def mappedI (k : List Int) (keep : List K) (a : List Int) : List Int := mpG k keep a (8 * a.length) 0 a
theorem flipI_len (l : List Int) (i : Int) : (flipI l i).length = l.length := by simp [flipI]

theorem turner_ok (nk nl : Bool) (k : List Int) (keep : List K) : CallOk Try.prog 25 [bts nk k, .pure (.list 2 nl (keep.map kp))] [] fun r st' => r = .clo 41 [.ptr 1 0, .ptr 0 0] ∧ st' = [.cells 22 [bts nk k], .cells 29 [.pure (.list 2 nl (keep.map kp))]] := by
  refine callOk_of false 2 Try.func25 rfl rfl (Nat.zero_le _) ?_
  conv => whnf
  repeat (first | (refine rest_vc ?_; conv => whnf) | (refine ⟨by decide, ?_⟩; conv => whnf))
  exact ⟨rfl, rfl⟩

theorem mapped_ok (nk nl : Bool) (k a : List Int) (keep : List K) (hk : k.length = 16) (ha : a.length ≤ 16) (hl : (keep.length : Int) ≤ 2000000) :
    CallOk Try.prog 20 [bts nk k, .pure (.list 2 nl (keep.map kp)), bts false a] [] fun r st' => st' = [] ∧ r = bts false (mappedI k keep a) := by
  refine callOk_of true 0 Try.func20 rfl rfl (Nat.le_refl _) ?_
  conv => whnf
  repeat (first | (refine rest_vc ?_; conv => whnf) | (refine ⟨by decide, ?_⟩; conv => whnf))
  refine CallIn.o [] (turner_ok nk nl k keep) (k := ?_)
  rintro r st' ⟨rfl, rfl⟩
  conv => whnf
  repeat (first | (refine rest_vc ?_; conv => whnf) | (refine ⟨by decide, ?_⟩; conv => whnf))
  refine CallIn.o [] (clone_ok a (by omega)) (k := ?_)
  rintro r st' ⟨rfl, rfl⟩
  conv => whnf
  repeat (first | (refine rest_vc ?_; conv => whnf) | (refine ⟨by decide, ?_⟩; conv => whnf))
  intro _
  conv => whnf
  repeat (first | (refine rest_vc ?_; conv => whnf) | (refine ⟨by decide, ?_⟩; conv => whnf))
  have e8 : IntKind.i64.wrap (8 * ((u8s a).length : Int)) = ((8 * a.length : Nat) : Int) := by rw [u8s_len, w64 (by omega) (by omega)]; omega
  refine awp_loop2 (n := 30) (α := Nat) (β := List Int) (fun i o => i ≤ 8 * a.length ∧ o.length = a.length ∧ mpG k keep a (8 * a.length - i) i o = mappedI k keep a)
    (fun i o => [(2, bts false a), (7, .clo 41 [.ptr 1 0, .ptr 0 0]), (8, .vref 2 1), (17, vI .i64 (8 * a.length : Nat)), (18, vI .i64 i)])
    (fun i o => [.cells 22 [bts nk k], .cells 29 [.pure (.list 2 nl (keep.map kp))], .vec 1 5 1 false (u8s o)]) (fun i _ => 8 * a.length - i) 0 a (fun _ => 0)
    ⟨Nat.zero_le _, rfl, rfl⟩ rfl ⟨rfl, rfl, rfl, congrArg (vI .i64) e8, rfl, trivial⟩ rfl (fun _ _ => rfl) (fun _ _ => ⟨Nat.zero_le _, rfl, rfl⟩) ?_
  rintro i o ⟨hi, ho, hc⟩
  conv => whnf
  repeat (first | (refine rest_vc ?_; conv => whnf) | (refine ⟨by decide, ?_⟩; conv => whnf))
  split <;> rename_i h <;> (conv => whnf) <;> repeat (first | (refine rest_vc ?_; conv => whnf) | (refine ⟨by decide, ?_⟩; conv => whnf))
  · have h := of_decide_eq_true h
    have hlt : i < 8 * a.length := by omega
    have cT := turn1_ok nk false nl k a keep i hk ha hlt hl rfl
    have hc' : mpG k keep a (8 * a.length - (i + 1)) (i + 1) (if turnB k keep a i then flipI o i else o) = mappedI k keep a := by
      rw [← hc, show 8 * a.length - i = (8 * a.length - (i + 1)) + 1 by omega]
      rfl
    obtain ⟨t, ht⟩ : ∃ t, t = turnB k keep a i := ⟨_, rfl⟩
    rw [← ht] at cT hc'
    refine CallIn.to (cT) (k := ?_)
    conv => whnf
    repeat (first | (refine rest_vc ?_; conv => whnf) | (refine ⟨by decide, ?_⟩; conv => whnf))
    cases t with
    | true =>
      conv => whnf
      repeat (first | (refine rest_vc ?_; conv => whnf) | (refine ⟨by decide, ?_⟩; conv => whnf))
      refine CallIn.o [2] (flip_ok 1 false o i (by omega) (by omega) (by omega)) (k := ?_)
      rintro r st' ⟨rfl, rfl⟩
      conv => whnf
      repeat (first | (refine rest_vc ?_; conv => whnf) | (refine ⟨by decide, ?_⟩; conv => whnf))
      refine ⟨i + 1, flipI o i, fun _ => 0, ⟨by omega, by rw [flipI_len]; exact ho, ?_⟩, by omega, rfl, ⟨rfl, rfl, rfl, rfl, congrArg (vI .i64) (by rw [w64 (by omega) (by omega)]; omega), trivial⟩, rfl, fun _ _ => rfl⟩
      rw [if_pos rfl] at hc'
      exact hc'
    | false =>
      conv => whnf
      repeat (first | (refine rest_vc ?_; conv => whnf) | (refine ⟨by decide, ?_⟩; conv => whnf))
      refine ⟨i + 1, o, fun _ => 0, ⟨by omega, ho, ?_⟩, by omega, rfl, ⟨rfl, rfl, rfl, rfl, congrArg (vI .i64) (by rw [w64 (by omega) (by omega)]; omega), trivial⟩, rfl, fun _ _ => rfl⟩
      rw [if_neg (by simp)] at hc'
      exact hc'
  · have h := of_decide_eq_false h
    have : i = 8 * a.length := by omega
    subst this
    rw [Nat.sub_self] at hc
    have hc : o = mappedI k keep a := hc
    refine ⟨rfl, ?_⟩
    rw [← hc]
    rfl

/-- What is asked ahead: 0 is right. -/
def askedI (k : List Int) (keep : List K) (l : List (Bool × List Int)) : Int :=
  if k.length ≠ 16 ∨ (l.any fun x => !isAd x.2) = true ∨ keep.any badK = true then 1 else if keep.length > 60 then 3 else 0

theorem asked_ok (nk nl na : Bool) (k : List Int) (keep : List K) (l : List (Bool × List Int)) (hk : (k.length : Int) ≤ 2000000) (hl : (keep.length : Int) ≤ 2000000) (hl2 : (l.length : Int) ≤ 2000000) :
    CallOk Try.prog 19 [bts nk k, .pure (.list 2 nl (keep.map kp)), .pure (.list 1 na (l.map pvb))] [] fun r st' => st' = [] ∧ r = vI .i64 (askedI k keep l) := by
  refine callOk_of true 0 Try.func19 rfl rfl (Nat.le_refl _) ?_
  conv => whnf
  repeat (first | (refine rest_vc ?_; conv => whnf) | (refine ⟨by decide, ?_⟩; conv => whnf))
  intro _
  conv => whnf
  repeat (first | (refine rest_vc ?_; conv => whnf) | (refine ⟨by decide, ?_⟩; conv => whnf))
  split <;> rename_i h <;> (conv => whnf) <;> repeat (first | (refine rest_vc ?_; conv => whnf) | (refine ⟨by decide, ?_⟩; conv => whnf))
  · refine ⟨rfl, congrArg (vI .i64) ?_⟩
    have : k.length ≠ 16 := by simp [u8s_len] at h; omega
    unfold askedI
    rw [if_pos (.inl this)]
  · have h16 : k.length = 16 := by simp [u8s_len] at h; omega
    have fin : ∀ b : Bool, keep.any badK = b → (l.any fun x => !isAd x.2) = false → askedI k keep l = if b = true then 1 else if keep.length > 60 then 3 else 0 := by
      intro b h1 h2
      unfold askedI
      rw [h1, h2]
      cases b <;> simp [h16]
    refine CallIn.tob (con35_ok 36 na l (fun x => !isAd x.2) hl2 (fun x _ => asked1_ok x)) (k := ?_)
    intro b hb
    cases b <;> (conv => whnf) <;> repeat (first | (refine rest_vc ?_; conv => whnf) | (refine ⟨by decide, ?_⟩; conv => whnf))
    · refine CallIn.tob (con37_ok 38 nl keep badK hl (fun x _ => asked2_ok x)) (k := ?_)
      intro b hb2
      cases b <;> (conv => whnf) <;> repeat (first | (refine rest_vc ?_; conv => whnf) | (refine ⟨by decide, ?_⟩; conv => whnf))
      · intro _
        conv => whnf
        repeat (first | (refine rest_vc ?_; conv => whnf) | (refine ⟨by decide, ?_⟩; conv => whnf))
        split <;> rename_i h3 <;> (conv => whnf) <;> repeat (first | (refine rest_vc ?_; conv => whnf) | (refine ⟨by decide, ?_⟩; conv => whnf))
        · have h3 := of_decide_eq_true h3
          rw [List.length_map] at h3
          refine ⟨rfl, congrArg (vI .i64) ?_⟩
          rw [fin _ hb2 hb, if_neg (by simp), if_pos (by omega)]
        · have h3 := of_decide_eq_false h3
          rw [List.length_map] at h3
          refine ⟨rfl, congrArg (vI .i64) ?_⟩
          rw [fin _ hb2 hb, if_neg (by simp), if_neg (by omega)]
      · refine ⟨rfl, congrArg (vI .i64) ?_⟩
        rw [fin _ hb2 hb, if_pos rfl]
    · refine ⟨rfl, congrArg (vI .i64) ?_⟩
      unfold askedI
      rw [if_pos (.inr (.inl hb))]

/-- Is the argument a right one? -/
def mapR (k : List Int) (keep : List K) (na : Bool) (a : List Int) : SV :=
  .tup [bts (decide (askedI k keep [(na, a)] ≠ 0)) (if askedI k keep [(na, a)] = 0 then mappedI k keep a else []), vI .i64 (askedI k keep [(na, a)])]

theorem asked_len {k : List Int} {keep : List K} {na : Bool} {a : List Int} (h : askedI k keep [(na, a)] = 0) : k.length = 16 ∧ 1 ≤ a.length ∧ a.length ≤ 16 ∧ keep.length ≤ 60 ∧ keep.any badK = false := by
  unfold askedI at h
  split at h
  · cases h
  · rename_i h1
    split at h
    · cases h
    · simp only [not_or, isAd] at h1
      simp at h1
      refine ⟨h1.1, List.length_pos_iff.2 h1.2.1.1, h1.2.1.2, by omega, ?_⟩
      simp
      exact h1.2.2

theorem Map_ok (nk nl na : Bool) (k a : List Int) (keep : List K) (hk : (k.length : Int) ≤ 2000000) (hl : (keep.length : Int) ≤ 2000000) (hna : na = true → a = []) :
    CallOk Try.prog 9 [bts nk k, .pure (.list 2 nl (keep.map kp)), bts na a] [] fun r st' => st' = [] ∧ r = mapR k keep na a := by
  refine callOk_of true 0 Try.func9 rfl rfl (Nat.le_refl _) ?_
  conv => whnf
  repeat (first | (refine rest_vc ?_; conv => whnf) | (refine ⟨by decide, ?_⟩; conv => whnf))
  have cA := asked_ok nk nl false k keep [(na, a)] hk hl (by simp)
  have hf := asked_len (k := k) (keep := keep) (na := na) (a := a)
  unfold mapR
  obtain ⟨e, he⟩ : ∃ e, e = askedI k keep [(na, a)] := ⟨_, rfl⟩
  rw [← he] at cA hf ⊢
  refine CallIn.to (cA) (k := ?_)
  conv => whnf
  repeat (first | (refine rest_vc ?_; conv => whnf) | (refine ⟨by decide, ?_⟩; conv => whnf))
  split <;> rename_i h <;> (conv => whnf) <;> repeat (first | (refine rest_vc ?_; conv => whnf) | (refine ⟨by decide, ?_⟩; conv => whnf))
  · have h0 : e ≠ 0 := by simpa using h
    rw [if_neg h0, decide_eq_true h0]
    exact ⟨rfl, rfl⟩
  · have h0 : e = 0 := by simpa using h
    subst h0
    obtain ⟨h1, h2, h3, h4, _⟩ := hf rfl
    have hna' : na = false := by
      cases na with
      | false => rfl
      | true => rw [hna rfl] at h2; cases h2
    subst hna'
    rw [if_pos rfl, decide_eq_false (by simp)]
    refine CallIn.to (mapped_ok nk nl k a keep h1 h3 hl) (k := ?_)
    conv => whnf
    repeat (first | (refine rest_vc ?_; conv => whnf) | (refine ⟨by decide, ?_⟩; conv => whnf))
    exact ⟨rfl, rfl⟩
end Go.Proofs.Ytlnmkolppgkglaa
