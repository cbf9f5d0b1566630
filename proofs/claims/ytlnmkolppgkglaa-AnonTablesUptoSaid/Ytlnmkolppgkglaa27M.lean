/- law27: maps and what undoes them, of the program and of the reference. -/
import Derived.Test.Ytlnmkolppgkglaa27L
set_option linter.all false
set_option maxHeartbeats 4000000
set_option maxRecDepth 100000
namespace Go.Proofs.Ytlnmkolppgkglaa
open Go Go.RowKit Go.Sy Go.Proofs

theorem any_step {α : Type} (p : α → Bool) (l : List α) (j : Nat) (x : α) (h : l[j]? = some x) : (l.drop j).any p = (p x || (l.drop (j + 1)).any p) := by
  obtain ⟨hlt, rfl⟩ := List.getElem?_eq_some_iff.1 h
  rw [List.drop_eq_getElem_cons hlt]
  rfl

theorem rasked_ok (nk nl na : Bool) (k : List Int) (keep : List K) (l : List (Bool × List Int)) (hk : (k.length : Int) ≤ 2000000) (hl : (keep.length : Int) ≤ 2000000) (hl2 : (l.length : Int) ≤ 2000000) :
    CallOk Try.prog 23 [bts nk k, .pure (.list 2 nl (keep.map kp)), .pure (.list 1 na (l.map pvb))] [] fun r st' => st' = [] ∧ r = vI .i64 (askedI k keep l) := by
  have a1 : k.length ≠ 16 → askedI k keep l = 1 := fun h => by unfold askedI; rw [if_pos (.inl h)]
  have a2 : (l.any fun x => !isAd x.2) = true → askedI k keep l = 1 := fun h => by unfold askedI; rw [if_pos (.inr (.inl h))]
  have a3 : keep.any badK = true → askedI k keep l = 1 := fun h => by unfold askedI; rw [if_pos (.inr (.inr h))]
  have a4 : k.length = 16 → (l.any fun x => !isAd x.2) = false → keep.any badK = false → askedI k keep l = if keep.length > 60 then 3 else 0 := fun h1 h2 h3 => by
    unfold askedI; rw [if_neg (by simp [h1, h2, h3])]
  generalize askedI k keep l = e at a1 a2 a3 a4 ⊢
  refine callOk_of true 0 Try.func23 rfl rfl (Nat.le_refl _) ?_
  conv => whnf
  repeat (first | (refine rest_vc ?_; conv => whnf) | (refine ⟨by decide, ?_⟩; conv => whnf))
  intro _
  conv => whnf
  repeat (first | (refine rest_vc ?_; conv => whnf) | (refine ⟨by decide, ?_⟩; conv => whnf))
  split <;> rename_i h <;> (conv => whnf) <;> repeat (first | (refine rest_vc ?_; conv => whnf) | (refine ⟨by decide, ?_⟩; conv => whnf))
  · have h : k.length ≠ 16 := by simp [u8s_len] at h; omega
    rw [a1 h]
    exact ⟨rfl, rfl⟩
  · have h16 : k.length = 16 := by simp [u8s_len] at h; omega
    refine awp_loop (n := 63) (α := Nat) (fun j => j ≤ l.length ∧ ((l.drop j).any fun x => !isAd x.2) = (l.any fun x => !isAd x.2)) (fun j => [(1, .pure (.list 2 nl (keep.map kp))), (2, .pure (.list 1 na (l.map pvb))), (7, vI .i64 j)])
      (fun _ => []) (fun j => l.length - j) 0 (fun _ => 0)
      ⟨Nat.zero_le _, rfl⟩ rfl ⟨rfl, rfl, rfl, trivial⟩ rfl (fun _ _ => rfl) (fun _ => ⟨Nat.le_refl _, rfl, rfl⟩) ?_
    rintro j ⟨hj, hc⟩
    conv => whnf
    repeat (first | (refine rest_vc ?_; conv => whnf) | (refine ⟨by decide, ?_⟩; conv => whnf))
    intro _
    conv => whnf
    repeat (first | (refine rest_vc ?_; conv => whnf) | (refine ⟨by decide, ?_⟩; conv => whnf))
    split <;> rename_i h2 <;> (conv => whnf) <;> repeat (first | (refine rest_vc ?_; conv => whnf) | (refine ⟨by decide, ?_⟩; conv => whnf))
    · have h2 := of_decide_eq_true h2
      rw [List.length_map] at h2
      refine ⟨by rw [List.length_map]; omega, fun q hq => ?_⟩
      obtain ⟨⟨nx, ax⟩, hx, rfl⟩ := map_get hq
      rw [Int.toNat_natCast] at hx
      rw [any_step _ l j _ hx] at hc
      conv => whnf
      repeat (first | (refine rest_vc ?_; conv => whnf) | (refine ⟨by decide, ?_⟩; conv => whnf))
      refine CallIn.tob (risAddress_ok nx ax) (k := ?_)
      intro b hb
      cases b <;> (conv => whnf) <;> repeat (first | (refine rest_vc ?_; conv => whnf) | (refine ⟨by decide, ?_⟩; conv => whnf))
      · have : isAd ax = false := hb
        rw [a2 (by rw [← hc]; simp only [this, Bool.not_false, Bool.true_or])]
        exact ⟨rfl, rfl⟩
      · have : isAd ax = true := hb
        simp only [this, Bool.not_true, Bool.false_or] at hc
        refine ⟨j + 1, fun _ => 0, ⟨by omega, hc⟩, by omega, rfl, ⟨rfl, rfl, congrArg (vI .i64) (by rw [w64 (by omega) (by omega)]; omega), trivial⟩, rfl, fun _ _ => rfl⟩
    · have h2 := of_decide_eq_false h2
      rw [List.length_map] at h2
      have hany : (l.any fun x => !isAd x.2) = false := by rw [← hc, show j = l.length by omega, List.drop_length]; rfl
      clear hc
      refine awp_loop (n := 63) (α := Nat) (fun j => j ≤ keep.length ∧ (keep.drop j).any badK = keep.any badK) (fun j => [(1, .pure (.list 2 nl (keep.map kp))), (8, vI .i64 j)])
        (fun _ => []) (fun j => keep.length - j) 0 (fun _ => 0)
        ⟨Nat.zero_le _, rfl⟩ rfl ⟨rfl, rfl, trivial⟩ rfl (fun _ _ => rfl) (fun _ => ⟨Nat.le_refl _, rfl, rfl⟩) ?_
      rintro j ⟨hj, hc⟩
      conv => whnf
      repeat (first | (refine rest_vc ?_; conv => whnf) | (refine ⟨by decide, ?_⟩; conv => whnf))
      intro _
      conv => whnf
      repeat (first | (refine rest_vc ?_; conv => whnf) | (refine ⟨by decide, ?_⟩; conv => whnf))
      split <;> rename_i h3 <;> (conv => whnf) <;> repeat (first | (refine rest_vc ?_; conv => whnf) | (refine ⟨by decide, ?_⟩; conv => whnf))
      · have h3 := of_decide_eq_true h3
        rw [List.length_map] at h3
        obtain ⟨x, hx⟩ : ∃ x, keep[j]? = some x := ⟨_, List.getElem?_eq_getElem (by omega)⟩
        have hkx : (keep.map kp)[(j : Int).toNat]? = some (kp x) := by rw [Int.toNat_natCast, List.getElem?_map, hx]; rfl
        rw [any_step _ keep j _ hx] at hc
        obtain ⟨⟨nx, ax⟩, n⟩ := x
        refine hand_draw [] (fun _ r => r = vB (decide (1 ≤ ax.length ∧ ax.length ≤ 16))) rfl (by kernel_rfl) rfl ?_
        conv => whnf
        repeat (first | (refine rest_vc ?_; conv => whnf) | (refine ⟨by decide, ?_⟩; conv => whnf))
        refine ⟨by rw [List.length_map]; omega, fun q hq => ?_⟩
        rw [hkx] at hq
        cases hq
        conv => whnf
        repeat (first | (refine rest_vc ?_; conv => whnf) | (refine ⟨by decide, ?_⟩; conv => whnf))
        refine CallIn.dtob (risAddress_ok nx ax) (k := ?_)
        intro b hb
        cases b
        · conv => whnf
          repeat (first | (refine rest_vc ?_; conv => whnf) | (refine ⟨by decide, ?_⟩; conv => whnf))
          have hbad : badK ((nx, ax), n) = true := by unfold badK; simp only [isAd]; rw [hb]; rfl
          rw [a3 (by rw [← hc, hbad]; rfl)]
          exact ⟨rfl, rfl⟩
        · have hb' := of_decide_eq_true hb
          conv => whnf
          repeat (first | (refine rest_vc ?_; conv => whnf) | (refine ⟨by decide, ?_⟩; conv => whnf))
          refine ⟨by rw [List.length_map]; omega, fun q hq => ?_⟩
          rw [hkx] at hq
          cases hq
          conv => whnf
          repeat (first | (refine rest_vc ?_; conv => whnf) | (refine ⟨by decide, ?_⟩; conv => whnf))
          split <;> rename_i h4 <;> (conv => whnf) <;> repeat (first | (refine rest_vc ?_; conv => whnf) | (refine ⟨by decide, ?_⟩; conv => whnf))
          · have hbad : badK ((nx, ax), n) = true := by unfold badK; simp only [isAd]; rw [hb, h4]; rfl
            rw [a3 (by rw [← hc, hbad]; rfl)]
            exact ⟨rfl, rfl⟩
          · refine ⟨by rw [List.length_map]; omega, fun q hq => ?_⟩
            rw [hkx] at hq
            cases hq
            conv => whnf
            repeat (first | (refine rest_vc ?_; conv => whnf) | (refine ⟨by decide, ?_⟩; conv => whnf))
            refine ⟨by rw [List.length_map]; omega, fun q hq => ?_⟩
            rw [hkx] at hq
            cases hq
            conv => whnf
            repeat (first | (refine rest_vc ?_; conv => whnf) | (refine ⟨by decide, ?_⟩; conv => whnf))
            intro _
            conv => whnf
            repeat (first | (refine rest_vc ?_; conv => whnf) | (refine ⟨by decide, ?_⟩; conv => whnf))
            have e8 : IntKind.i64.wrap (8 * ((u8s ((nx, ax), n).1.2).length : Int)) = 8 * (ax.length : Int) := by simp only [u8s_len]; rw [w64 (by omega) (by omega)]
            split <;> rename_i h5 <;> (conv => whnf) <;> repeat (first | (refine rest_vc ?_; conv => whnf) | (refine ⟨by decide, ?_⟩; conv => whnf))
            · rw [e8] at h5
              have hbad : badK ((nx, ax), n) = true := by unfold badK; simp only [isAd]; rw [hb, h4, h5]; rfl
              rw [a3 (by rw [← hc, hbad]; rfl)]
              exact ⟨rfl, rfl⟩
            · rw [e8] at h5
              have hbad : badK ((nx, ax), n) = false := by unfold badK; simp only [isAd]; rw [hb, h4, h5]; rfl
              rw [hbad] at hc
              refine ⟨j + 1, fun _ => 0, ⟨by omega, hc⟩, by omega, rfl, ⟨rfl, congrArg (vI .i64) (by rw [w64 (by omega) (by omega)]; omega), trivial⟩, rfl, fun _ _ => rfl⟩
      · have h3 := of_decide_eq_false h3
        rw [List.length_map] at h3
        have hbk : keep.any badK = false := by rw [← hc, show j = keep.length by omega, List.drop_length]; rfl
        rw [a4 h16 hany hbk]
        intro _
        conv => whnf
        repeat (first | (refine rest_vc ?_; conv => whnf) | (refine ⟨by decide, ?_⟩; conv => whnf))
        split <;> rename_i h4 <;> (conv => whnf) <;> repeat (first | (refine rest_vc ?_; conv => whnf) | (refine ⟨by decide, ?_⟩; conv => whnf))
        · have h4 := of_decide_eq_true h4
          rw [List.length_map] at h4
          rw [if_pos (by omega)]
          exact ⟨rfl, rfl⟩
        · have h4 := of_decide_eq_false h4
          rw [List.length_map] at h4
          rw [if_neg (by omega)]
          exact ⟨rfl, rfl⟩

/-- What a map gives, right or not. -/
def outR (k : List Int) (keep : List K) (na : Bool) (a : List Int) (f : List Int) : SV :=
  .tup [bts (decide (askedI k keep [(na, a)] ≠ 0)) (if askedI k keep [(na, a)] = 0 then f else []), vI .i64 (askedI k keep [(na, a)])]

theorem rMap_ok (nk nl na : Bool) (k a : List Int) (keep : List K) (hk : (k.length : Int) ≤ 2000000) (hl : (keep.length : Int) ≤ 2000000) (hna : na = true → a = []) (hkb : KBts keep) (hb : Bts a) :
    CallOk Try.prog 11 [bts nk k, .pure (.list 2 nl (keep.map kp)), bts na a] [] fun r st' => st' = [] ∧ r = outR k keep na a (mappedI k keep a) := by
  have cA := rasked_ok nk nl false k keep [(na, a)] hk hl (by simp)
  have hf := asked_len (k := k) (keep := keep) (na := na) (a := a)
  unfold outR
  have hm : ∀ (h1 : k.length = 16) (h2 : 1 ≤ a.length) (h3 : a.length ≤ 16), CallOk Try.prog 24 [bts nk k, .pure (.list 2 nl (keep.map kp)), bts na a, vB false] [] fun r st' => st' = [] ∧ r = bts false (mappedI k keep a) := fun h1 h2 h3 => by
    have := rmapped_ok nk nl na false k a keep h1 h3 h2 hl hkb hb
    rw [rmG_forth] at this
    exact this
  obtain ⟨F, hF⟩ : ∃ F, F = mappedI k keep a := ⟨_, rfl⟩
  rw [← hF] at hm ⊢
  obtain ⟨e, he⟩ : ∃ e, e = askedI k keep [(na, a)] := ⟨_, rfl⟩
  rw [← he] at cA hf ⊢
  refine callOk_of true 0 Try.func11 rfl rfl (Nat.le_refl _) ?_
  conv => whnf
  repeat (first | (refine rest_vc ?_; conv => whnf) | (refine ⟨by decide, ?_⟩; conv => whnf))
  refine CallIn.to (cA) (k := ?_)
  conv => whnf
  repeat (first | (refine rest_vc ?_; conv => whnf) | (refine ⟨by decide, ?_⟩; conv => whnf))
  split <;> rename_i h <;> (conv => whnf) <;> repeat (first | (refine rest_vc ?_; conv => whnf) | (refine ⟨by decide, ?_⟩; conv => whnf))
  · have h0 : e ≠ 0 := by simpa using h
    rw [if_neg h0, decide_eq_true h0]
    exact ⟨rfl, rfl⟩
  · have h0 : e = 0 := by simpa using h
    subst h0
    obtain ⟨h1, h2, h3, h4, _⟩ := hf rfl
    rw [if_pos rfl, decide_eq_false (by simp)]
    refine CallIn.to (hm h1 h2 h3) (k := ?_)
    conv => whnf
    repeat (first | (refine rest_vc ?_; conv => whnf) | (refine ⟨by decide, ?_⟩; conv => whnf))
    exact ⟨rfl, rfl⟩

theorem rUnmap_ok (nk nl na : Bool) (k a : List Int) (keep : List K) (hk : (k.length : Int) ≤ 2000000) (hl : (keep.length : Int) ≤ 2000000) (hna : na = true → a = []) (hkb : KBts keep) (hb : Bts a) :
    CallOk Try.prog 13 [bts nk k, .pure (.list 2 nl (keep.map kp)), bts na a] [] fun r st' => st' = [] ∧ r = outR k keep na a (unmapI k keep a) := by
  have cA := rasked_ok nk nl false k keep [(na, a)] hk hl (by simp)
  have hf := asked_len (k := k) (keep := keep) (na := na) (a := a)
  unfold outR
  have hm : ∀ (h1 : k.length = 16) (h2 : 1 ≤ a.length) (h3 : a.length ≤ 16), CallOk Try.prog 24 [bts nk k, .pure (.list 2 nl (keep.map kp)), bts na a, vB true] [] fun r st' => st' = [] ∧ r = bts false (unmapI k keep a) := fun h1 h2 h3 => by
    have := rmapped_ok nk nl na true k a keep h1 h3 h2 hl hkb hb
    rw [rmG_back] at this
    exact this
  obtain ⟨F, hF⟩ : ∃ F, F = unmapI k keep a := ⟨_, rfl⟩
  rw [← hF] at hm ⊢
  obtain ⟨e, he⟩ : ∃ e, e = askedI k keep [(na, a)] := ⟨_, rfl⟩
  rw [← he] at cA hf ⊢
  refine callOk_of true 0 Try.func13 rfl rfl (Nat.le_refl _) ?_
  conv => whnf
  repeat (first | (refine rest_vc ?_; conv => whnf) | (refine ⟨by decide, ?_⟩; conv => whnf))
  refine CallIn.to (cA) (k := ?_)
  conv => whnf
  repeat (first | (refine rest_vc ?_; conv => whnf) | (refine ⟨by decide, ?_⟩; conv => whnf))
  split <;> rename_i h <;> (conv => whnf) <;> repeat (first | (refine rest_vc ?_; conv => whnf) | (refine ⟨by decide, ?_⟩; conv => whnf))
  · have h0 : e ≠ 0 := by simpa using h
    rw [if_neg h0, decide_eq_true h0]
    exact ⟨rfl, rfl⟩
  · have h0 : e = 0 := by simpa using h
    subst h0
    obtain ⟨h1, h2, h3, h4, _⟩ := hf rfl
    rw [if_pos rfl, decide_eq_false (by simp)]
    refine CallIn.to (hm h1 h2 h3) (k := ?_)
    conv => whnf
    repeat (first | (refine rest_vc ?_; conv => whnf) | (refine ⟨by decide, ?_⟩; conv => whnf))
    exact ⟨rfl, rfl⟩

theorem Unmap_ok (nk nl na : Bool) (k a : List Int) (keep : List K) (hk : (k.length : Int) ≤ 2000000) (hl : (keep.length : Int) ≤ 2000000) (hna : na = true → a = []) :
    CallOk Try.prog 12 [bts nk k, .pure (.list 2 nl (keep.map kp)), bts na a] [] fun r st' => st' = [] ∧ r = outR k keep na a (unmapI k keep a) := by
  have cA := asked_ok nk nl false k keep [(na, a)] hk hl (by simp)
  have hf := asked_len (k := k) (keep := keep) (na := na) (a := a)
  unfold outR
  obtain ⟨F, hF⟩ : ∃ F, F = unmapI k keep a := ⟨_, rfl⟩
  rw [← hF]
  obtain ⟨e, he⟩ : ∃ e, e = askedI k keep [(na, a)] := ⟨_, rfl⟩
  rw [← he] at cA hf ⊢
  refine callOk_of true 0 Try.func12 rfl rfl (Nat.le_refl _) ?_
  conv => whnf
  repeat (first | (refine rest_vc ?_; conv => whnf) | (refine ⟨by decide, ?_⟩; conv => whnf))
  refine CallIn.to (cA) (k := ?_)
  conv => whnf
  repeat (first | (refine rest_vc ?_; conv => whnf) | (refine ⟨by decide, ?_⟩; conv => whnf))
  split <;> rename_i h <;> (conv => whnf) <;> repeat (first | (refine rest_vc ?_; conv => whnf) | (refine ⟨by decide, ?_⟩; conv => whnf))
  · have h0 : e ≠ 0 := by simpa using h
    rw [if_neg h0, decide_eq_true h0]
    exact ⟨rfl, rfl⟩
  · have h0 : e = 0 := by simpa using h
    subst h0
    obtain ⟨hk16, h2, h3, h4, _⟩ := hf rfl
    have hna' : na = false := by
      cases na with
      | false => rfl
      | true => rw [hna rfl] at h2; cases h2
    subst hna'
    rw [if_pos rfl, decide_eq_false (by simp)]
    refine CallIn.o [] (turner_ok nk nl k keep) (k := ?_)
    rintro r st' ⟨rfl, rfl⟩
    conv => whnf
    repeat (first | (refine rest_vc ?_; conv => whnf) | (refine ⟨by decide, ?_⟩; conv => whnf))
    refine CallIn.o [] (clone_ok a (by omega)) (k := ?_)
    rintro r st' ⟨rfl, rfl⟩
    conv => whnf
    repeat (first | (refine rest_vc ?_; conv => whnf) | (refine ⟨by decide, ?_⟩; conv => whnf))
    intro _
    conv => whnf
    repeat (first | (refine rest_vc ?_; conv => whnf) | (refine ⟨by decide, ?_⟩; conv => whnf))
    have e8 : IntKind.i64.wrap (8 * ((u8s a).length : Int)) = ((8 * a.length : Nat) : Int) := by rw [u8s_len, w64 (by omega) (by omega)]; omega
    refine awp_loop2 (n := 40) (α := Nat) (β := List Int) (fun i o => i ≤ 8 * a.length ∧ o.length = a.length ∧ unG k keep (8 * a.length - i) i o = F)
      (fun i o => [(9, .clo 41 [.ptr 1 0, .ptr 0 0]), (10, .vref 2 1), (27, vI .i64 (8 * a.length : Nat)), (28, vI .i64 i)])
      (fun i o => [.cells 22 [bts nk k], .cells 29 [.pure (.list 2 nl (keep.map kp))], .vec 1 5 1 false (u8s o)]) (fun i _ => 8 * a.length - i) 0 a (fun _ => 0)
      ⟨Nat.zero_le _, rfl, hF.symm⟩ rfl ⟨rfl, rfl, congrArg (vI .i64) e8, rfl, trivial⟩ rfl (fun _ _ => rfl) (fun _ _ => ⟨Nat.zero_le _, rfl, rfl⟩) ?_
    rintro i o ⟨hi, ho, hc⟩
    conv => whnf
    repeat (first | (refine rest_vc ?_; conv => whnf) | (refine ⟨by decide, ?_⟩; conv => whnf))
    split <;> rename_i h <;> (conv => whnf) <;> repeat (first | (refine rest_vc ?_; conv => whnf) | (refine ⟨by decide, ?_⟩; conv => whnf))
    · have h := of_decide_eq_true h
      have hlt : i < 8 * a.length := by omega
      have cT := turn1_ok nk false nl k o keep i hk16 (by omega) (by omega) hl rfl
      have hc' : unG k keep (8 * a.length - (i + 1)) (i + 1) (if turnB k keep o i then flipI o i else o) = F := by
        rw [← hc, show 8 * a.length - i = (8 * a.length - (i + 1)) + 1 by omega]
        rfl
      obtain ⟨t, ht⟩ : ∃ t, t = turnB k keep o i := ⟨_, rfl⟩
      rw [← ht] at cT hc'
      refine CallIn.to (cT) (k := ?_)
      conv => whnf
      repeat (first | (refine rest_vc ?_; conv => whnf) | (refine ⟨by decide, ?_⟩; conv => whnf))
      cases t with
      | true =>
        conv => whnf
        repeat (first | (refine rest_vc ?_; conv => whnf) | (refine ⟨by decide, ?_⟩; conv => whnf))
        refine CallIn.o [2] (flip_ok 1 false o i (by omega) (by omega) (by omega)) (k := ?_)
        rintro r st' ⟨rfl, rfl⟩
        conv => whnf
        repeat (first | (refine rest_vc ?_; conv => whnf) | (refine ⟨by decide, ?_⟩; conv => whnf))
        refine ⟨i + 1, flipI o i, fun _ => 0, ⟨by omega, by rw [flipI_len]; exact ho, ?_⟩, by omega, rfl, ⟨rfl, rfl, rfl, congrArg (vI .i64) (by rw [w64 (by omega) (by omega)]; omega), trivial⟩, rfl, fun _ _ => rfl⟩
        rw [if_pos rfl] at hc'
        exact hc'
      | false =>
        conv => whnf
        repeat (first | (refine rest_vc ?_; conv => whnf) | (refine ⟨by decide, ?_⟩; conv => whnf))
        refine ⟨i + 1, o, fun _ => 0, ⟨by omega, ho, ?_⟩, by omega, rfl, ⟨rfl, rfl, rfl, congrArg (vI .i64) (by rw [w64 (by omega) (by omega)]; omega), trivial⟩, rfl, fun _ _ => rfl⟩
        rw [if_neg (by simp)] at hc'
        exact hc'
    · have h := of_decide_eq_false h
      have : i = 8 * a.length := by omega
      subst this
      rw [Nat.sub_self] at hc
      have hc : o = F := hc
      refine ⟨rfl, ?_⟩
      rw [← hc]
      rfl
end Go.Proofs.Ytlnmkolppgkglaa
