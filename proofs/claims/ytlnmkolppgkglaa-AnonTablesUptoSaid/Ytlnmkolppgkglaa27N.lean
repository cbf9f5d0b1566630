/- law27: the one undoes the other; AnonMaps' contract. -/
import Derived.Test.Ytlnmkolppgkglaa27M
set_option linter.all false
set_option maxHeartbeats 4000000
set_option maxRecDepth 100000
namespace Go.Proofs.Ytlnmkolppgkglaa
open Go Go.RowKit Go.Sy Go.Proofs

theorem unG_spec (k : List Int) (keep : List K) {a : List Int} (ha : Bts a) : ∀ (m i : Nat) (o : List Int), Bts o → o.length = a.length → i + m = 8 * a.length →
    (∀ j : Nat, j < i → bitI o j = bitI a j) → (∀ j : Nat, i ≤ j → j < 8 * a.length → bitI o j = bitI (mappedI k keep a) j) → unG k keep m i o = a
  | 0, i, o, ho, hl, hi, h1, h2 => by
    show o = a
    exact bits_ext ho ha hl fun j hj => h1 j (by omega)
  | m + 1, i, o, ho, hl, hi, h1, h2 => by
    obtain ⟨a1, a2, a3⟩ := mapped_spec k keep ha
    have ht : turnB k keep o i = turnB k keep a i := turn_same ho ha hl (by omega) h1
    have hx := h2 i (Nat.le_refl _) (by omega)
    rw [a3 i (by omega)] at hx
    show unG k keep m (i + 1) _ = a
    by_cases h : turnB k keep a i = true
    · rw [ht, if_pos h]
      rw [if_pos h] at hx
      refine unG_spec k keep ha m (i + 1) _ (flip_bts ho i) (by rw [flipI_len]; exact hl) (by omega) (fun j hj => ?_) fun j hj1 hj2 => ?_
      · rw [flip_bit ho (by omega)]
        by_cases hji : j = i
        · subst hji; rw [if_pos rfl]; omega
        · rw [if_neg hji]; exact h1 j (by omega)
      · rw [flip_bit ho (by omega), if_neg (by omega)]
        exact h2 j (by omega) hj2
    · rw [ht, if_neg h]
      rw [if_neg h] at hx
      refine unG_spec k keep ha m (i + 1) o ho hl (by omega) (fun j hj => ?_) fun j hj1 hj2 => h2 j (by omega) hj2
      by_cases hji : j = i
      · subst hji; exact hx
      · exact h1 j (by omega)

theorem unmap_mapped (k : List Int) (keep : List K) {a : List Int} (ha : Bts a) : unmapI k keep (mappedI k keep a) = a := by
  obtain ⟨a1, a2, _⟩ := mapped_spec k keep ha
  unfold unmapI
  exact unG_spec k keep ha _ 0 _ a1 a2 (by rw [a2]; omega) (fun j hj => by omega) fun j _ _ => rfl

theorem asked_same {k : List Int} {keep : List K} {na nb : Bool} {a b : List Int} (h : a.length = b.length) : askedI k keep [(na, a)] = askedI k keep [(nb, b)] := by
  have e : isAd a = isAd b := by unfold isAd; rw [h]
  have e2 : ([(na, a)] : List (Bool × List Int)).any (fun x => !isAd x.2) = ([(nb, b)] : List (Bool × List Int)).any (fun x => !isAd x.2) := by simp only [List.any_cons, List.any_nil, e]
  unfold askedI
  rw [e2]

theorem AnonMaps_ok (r : Rule) (na : Bool) (a : List Int) (hr : r.wt + a.length ≤ 2000000) (hna : na = true → a = []) (ha : Bts a) (hkb : ∀ x ∈ r.ads, Bts x.2) :
    CallOk Try.prog 4 [.pure r.pv, bts na a] [] fun v st' => st' = [] ∧ v = vB true := by
  have cs := size_ok r (by omega)
  have ck := keepers_ok r (by omega)
  have hkl : r.keeps.length = r.ads.length := kpsG_len _ _
  have hw := hr
  unfold Rule.wt at hw
  have hkbts : KBts r.keeps := by
    intro x hx
    obtain ⟨i, hi, rfl⟩ := List.mem_iff_getElem.1 hx
    have hi' : i < r.ads.length := by omega
    have := kpsG_get r.ads r.bits i _ (List.getElem?_eq_getElem hi')
    have e : r.keeps[i]? = some (r.ads[i], r.bits.getD i 0) := this
    rw [List.getElem?_eq_getElem hi] at e
    have e := Option.some.inj e
    rw [e]
    exact hkb _ (List.getElem_mem _)
  have c1 := Map_ok r.nk (r.keeps.map kp).isEmpty na r.key a r.keeps (by omega) (by omega) hna
  have c2 := rMap_ok r.nk (r.keeps.map kp).isEmpty na r.key a r.keeps (by omega) (by omega) hna hkbts ha
  have c3 := Unmap_ok r.nk (r.keeps.map kp).isEmpty na r.key a r.keeps (by omega) (by omega) hna
  have c4 := rUnmap_ok r.nk (r.keeps.map kp).isEmpty na r.key a r.keeps (by omega) (by omega) hna hkbts ha
  unfold mapR at c1
  unfold outR at c2 c3 c4
  have c5 : askedI r.key r.keeps [(na, a)] = 0 → CallOk Try.prog 12 [bts r.nk r.key, .pure (.list 2 (r.keeps.map kp).isEmpty (r.keeps.map kp)), bts false (mappedI r.key r.keeps a)] [] fun v st' => st' = [] ∧ v = .tup [bts false a, vI .i64 0] := by
    intro h0
    have := Unmap_ok r.nk (r.keeps.map kp).isEmpty false r.key (mappedI r.key r.keeps a) r.keeps (by omega) (by omega) (by simp)
    unfold outR at this
    rw [asked_same (nb := na) (mapped_spec r.key r.keeps ha).2.1, h0, if_pos rfl, decide_eq_false (by simp), unmap_mapped r.key r.keeps ha] at this
    exact this
  obtain ⟨e, he⟩ : ∃ e, e = askedI r.key r.keeps [(na, a)] := ⟨_, rfl⟩
  rw [← he] at c1 c2 c3 c4 c5
  obtain ⟨M, hM⟩ : ∃ M, M = mappedI r.key r.keeps a := ⟨_, rfl⟩
  rw [← hM] at c1 c2 c5
  obtain ⟨x, hx⟩ : ∃ x, x = if e = 0 then M else [] := ⟨_, rfl⟩
  obtain ⟨u, hu⟩ : ∃ u, u = if e = 0 then unmapI r.key r.keeps a else [] := ⟨_, rfl⟩
  obtain ⟨nx, hnx⟩ : ∃ nx, nx = decide (e ≠ 0) := ⟨_, rfl⟩
  rw [← hx, ← hnx] at c1 c2
  rw [← hu, ← hnx] at c3 c4
  have c5 : e = 0 → CallOk Try.prog 12 [bts r.nk r.key, .pure (.list 2 (r.keeps.map kp).isEmpty (r.keeps.map kp)), bts nx x] [] fun v st' => st' = [] ∧ v = .tup [bts false a, vI .i64 0] := by
    intro h0
    have := c5 h0
    rw [hx, hnx, h0, if_pos rfl, decide_eq_false (by simp)]
    exact this
  clear hx hu hM hnx he hkbts hkb
  obtain ⟨w, hwt⟩ : ∃ w, w = r.wt := ⟨_, rfl⟩
  rw [← hwt] at cs hr
  obtain ⟨ks, hks⟩ : ∃ ks, ks = r.keeps := ⟨_, rfl⟩
  rw [← hks] at ck c1 c2 c3 c4 c5
  clear hks hkl hwt
  obtain ⟨nk, key, nad, ads, nbi, bits⟩ := r
  have h1 : (!((strOfNums x).toList == (strOfNums x).toList)) = false := by simp
  have h2 : (!((strOfNums u).toList == (strOfNums u).toList)) = false := by simp
  have h3 : ((strOfNums a).toList == (strOfNums a).toList) = true := by simp
  refine callOk_of true 0 Try.func4 rfl rfl (Nat.le_refl _) ?_
  conv => whnf
  repeat (first | (refine rest_vc ?_; conv => whnf) | (refine ⟨by decide, ?_⟩; conv => whnf))
  refine CallIn.to (cs) (k := ?_)
  conv => whnf
  repeat (first | (refine rest_vc ?_; conv => whnf) | (refine ⟨by decide, ?_⟩; conv => whnf))
  intro _
  conv => whnf
  repeat (first | (refine rest_vc ?_; conv => whnf) | (refine ⟨by decide, ?_⟩; conv => whnf))
  split <;> rename_i hov <;> (conv => whnf) <;> repeat (first | (refine rest_vc ?_; conv => whnf) | (refine ⟨by decide, ?_⟩; conv => whnf))
  · refine CallIn.to (known_ok) (k := ?_)
    conv => whnf
    repeat (first | (refine rest_vc ?_; conv => whnf) | (refine ⟨by decide, ?_⟩; conv => whnf))
    exact ⟨rfl, rfl⟩
  · refine CallIn.to (ck) (k := ?_)
    conv => whnf
    repeat (first | (refine rest_vc ?_; conv => whnf) | (refine ⟨by decide, ?_⟩; conv => whnf))
    refine CallIn.to (c1) (k := ?_)
    conv => whnf
    repeat (first | (refine rest_vc ?_; conv => whnf) | (refine ⟨by decide, ?_⟩; conv => whnf))
    refine CallIn.to (c2) (k := ?_)
    conv => whnf
    repeat (first | (refine rest_vc ?_; conv => whnf) | (refine ⟨by decide, ?_⟩; conv => whnf))
    refine CallIn.to (c3) (k := ?_)
    conv => whnf
    repeat (first | (refine rest_vc ?_; conv => whnf) | (refine ⟨by decide, ?_⟩; conv => whnf))
    refine CallIn.to (c4) (k := ?_)
    conv => whnf
    repeat (first | (refine rest_vc ?_; conv => whnf) | (refine ⟨by decide, ?_⟩; conv => whnf))
    refine ⟨⟨_, rfl⟩, fun l hl => ?_⟩
    obtain rfl : x = l := u8s_inj hl
    conv => whnf
    repeat (first | (refine rest_vc ?_; conv => whnf) | (refine ⟨by decide, ?_⟩; conv => whnf))
    refine ⟨⟨_, rfl⟩, fun l hl => ?_⟩
    obtain rfl : x = l := u8s_inj hl
    conv => whnf
    repeat (first | (refine rest_vc ?_; conv => whnf) | (refine ⟨by decide, ?_⟩; conv => whnf))
    conv =>
      arg 2
      rw [h1]
    conv => whnf
    repeat (first | (refine rest_vc ?_; conv => whnf) | (refine ⟨by decide, ?_⟩; conv => whnf))
    split <;> rename_i h4 <;> (conv => whnf) <;> repeat (first | (refine rest_vc ?_; conv => whnf) | (refine ⟨by decide, ?_⟩; conv => whnf))
    · exact absurd h4 (by simp)
    · refine ⟨⟨_, rfl⟩, fun l hl => ?_⟩
      obtain rfl : u = l := u8s_inj hl
      conv => whnf
      repeat (first | (refine rest_vc ?_; conv => whnf) | (refine ⟨by decide, ?_⟩; conv => whnf))
      refine ⟨⟨_, rfl⟩, fun l hl => ?_⟩
      obtain rfl : u = l := u8s_inj hl
      conv => whnf
      repeat (first | (refine rest_vc ?_; conv => whnf) | (refine ⟨by decide, ?_⟩; conv => whnf))
      conv =>
        arg 2
        rw [h2]
      conv => whnf
      repeat (first | (refine rest_vc ?_; conv => whnf) | (refine ⟨by decide, ?_⟩; conv => whnf))
      split <;> rename_i h5 <;> (conv => whnf) <;> repeat (first | (refine rest_vc ?_; conv => whnf) | (refine ⟨by decide, ?_⟩; conv => whnf))
      · exact absurd h5 (by simp)
      · split <;> rename_i h6 <;> (conv => whnf) <;> repeat (first | (refine rest_vc ?_; conv => whnf) | (refine ⟨by decide, ?_⟩; conv => whnf))
        · refine CallIn.to (known_ok) (k := ?_)
          conv => whnf
          repeat (first | (refine rest_vc ?_; conv => whnf) | (refine ⟨by decide, ?_⟩; conv => whnf))
          exact ⟨rfl, rfl⟩
        · have h6 : e = 0 := by simpa using h6
          refine CallIn.to (c5 h6) (k := ?_)
          conv => whnf
          repeat (first | (refine rest_vc ?_; conv => whnf) | (refine ⟨by decide, ?_⟩; conv => whnf))
          refine ⟨⟨_, rfl⟩, fun l hl => ?_⟩
          obtain rfl : a = l := u8s_inj hl
          conv => whnf
          repeat (first | (refine rest_vc ?_; conv => whnf) | (refine ⟨by decide, ?_⟩; conv => whnf))
          refine ⟨⟨_, rfl⟩, fun l hl => ?_⟩
          obtain rfl : a = l := u8s_inj hl
          conv => whnf
          repeat (first | (refine rest_vc ?_; conv => whnf) | (refine ⟨by decide, ?_⟩; conv => whnf))
          conv =>
            arg 2
            rw [h3]
          conv => whnf
          repeat (first | (refine rest_vc ?_; conv => whnf) | (refine ⟨by decide, ?_⟩; conv => whnf))
          refine CallIn.to (known_ok) (k := ?_)
          conv => whnf
          repeat (first | (refine rest_vc ?_; conv => whnf) | (refine ⟨by decide, ?_⟩; conv => whnf))
          exact ⟨rfl, rfl⟩
end Go.Proofs.Ytlnmkolppgkglaa
