/- law27: what is known; two addresses and those to which they are mapped. -/
import Derived.Test.Ytlnmkolppgkglaa27I
set_option linter.all false
set_option maxHeartbeats 4000000
set_option maxRecDepth 100000
namespace Go.Proofs.Ytlnmkolppgkglaa
open Go Go.RowKit Go.Sy Go.Proofs

theorem known_map (keep : List K) (h : keep = [] ∨ keep = [((false, [10, 0, 0, 1]), 32)]) (x : Int) (hx : 0 ≤ x ∧ x < 256) :
    mapR (List.replicate 16 0) keep false [10, 0, 0, x] = .tup [bts false (mappedI (List.replicate 16 0) keep [10, 0, 0, x]), vI .i64 0] := by
  have e : askedI (List.replicate 16 0) keep [(false, [10, 0, 0, x])] = 0 := by
    unfold askedI
    rcases h with rfl | rfl <;> rfl
  unfold mapR
  rw [e]
  rfl

theorem known_bts (x : Int) (hx : 0 ≤ x ∧ x < 256) : Bts [10, 0, 0, x] := by
  intro y hy
  simp at hy
  omega

theorem u8s_inj {l l' : List Int} (h : u8s l = u8s l') : l = l' := by
  refine List.map_inj_right (f := fun x => PV.val (.int .u8 x)) (fun x y e => ?_) |>.1 h
  simpa using e

theorem known_ok : CallOk Try.prog 7 [] [] fun r st' => st' = [] ∧ r = vB true := by
  have c1 := Map_ok false true false (List.replicate 16 0) [10, 0, 0, 1] [] (by decide) (by decide) (by simp)
  have c2 := Map_ok false true false (List.replicate 16 0) [10, 0, 0, 200] [] (by decide) (by decide) (by simp)
  have c3 := Map_ok false false false (List.replicate 16 0) [10, 0, 0, 1] [((false, [10, 0, 0, 1]), 32)] (by decide) (by decide) (by simp)
  rw [known_map _ (.inl rfl) _ (by decide)] at c1 c2
  rw [known_map _ (.inr rfl) _ (by decide)] at c3
  obtain ⟨a1, a2, _⟩ := mapped_spec (List.replicate 16 0) [] (known_bts 1 (by decide))
  obtain ⟨b1, b2, _⟩ := mapped_spec (List.replicate 16 0) [] (known_bts 200 (by decide))
  have hcm := mapped_common (List.replicate 16 0) [] (known_bts 1 (by decide)) (known_bts 200 (by decide)) rfl
  have h24 : cmB [10, 0, 0, 1] [10, 0, 0, 200] = 24 := by decide +kernel
  rw [h24] at hcm
  have hkeep : mappedI (List.replicate 16 0) [((false, [10, 0, 0, 1]), 32)] [10, 0, 0, 1] = [10, 0, 0, 1] := by
    refine mapped_kept _ _ (known_bts 1 (by decide)) fun i hi => ?_
    have hi : i < 32 := hi
    have e : cmB [10, 0, 0, 1] [10, 0, 0, 1] = 32 := by decide +kernel
    unfold keptB
    simp only [List.any_cons, List.any_nil, Bool.or_false, e, decide_true, Bool.true_and]
    rw [decide_eq_true (by omega), decide_eq_true (by omega)]
    rfl
  rw [hkeep] at c3
  obtain ⟨x, hx⟩ : ∃ x, x = mappedI (List.replicate 16 0) [] [10, 0, 0, 1] := ⟨_, rfl⟩
  obtain ⟨y, hy⟩ : ∃ y, y = mappedI (List.replicate 16 0) [] [10, 0, 0, 200] := ⟨_, rfl⟩
  rw [← hx] at c1 a2 hcm
  rw [← hy] at c2 b2 hcm
  have c4 := Common_ok false false x y (by rw [a2]; decide) (by rw [b2]; decide)
  have e4 : comR x y = .tup [vI .i64 24, vI .i64 0] := by
    unfold comR comI isAd
    rw [a2, b2, hcm]
    rfl
  rw [e4] at c4
  clear e4 hkeep hcm h24
  refine callOk_of true 0 Try.func7 rfl rfl (Nat.le_refl _) ?_
  conv => whnf
  repeat (refine ⟨by decide, ?_⟩; conv => whnf)
  refine rest_vc ?_
  conv => whnf
  repeat (refine ⟨by decide, ?_⟩; conv => whnf)
  refine rest_frz 0 rfl ?_
  refine rest_vc ?_
  conv => whnf
  repeat (first | (refine rest_vc ?_; conv => whnf) | (refine ⟨by decide, ?_⟩; conv => whnf))
  refine CallIn.to (c1) (k := ?_)
  conv => whnf
  repeat (first | (refine rest_vc ?_; conv => whnf) | (refine ⟨by decide, ?_⟩; conv => whnf))
  refine CallIn.to (c2) (k := ?_)
  conv => whnf
  repeat (first | (refine rest_vc ?_; conv => whnf) | (refine ⟨by decide, ?_⟩; conv => whnf))
  refine CallIn.to (c4) (k := ?_)
  conv => whnf
  repeat (first | (refine rest_vc ?_; conv => whnf) | (refine ⟨by decide, ?_⟩; conv => whnf))
  refine CallIn.to (c3) (k := ?_)
  conv => whnf
  repeat (first | (refine rest_vc ?_; conv => whnf) | (refine ⟨by decide, ?_⟩; conv => whnf))
  refine ⟨⟨_, rfl⟩, fun l hl => ?_⟩
  obtain rfl : [10, 0, 0, 1] = l := u8s_inj hl
  have hs : ((strOfNums [10, 0, 0, 1]).toList == (ByteArray.mk #[10, 0, 0, 1]).toList) = true := by decide +kernel
  conv => whnf
  repeat (first | (refine rest_vc ?_; conv => whnf) | (refine ⟨by decide, ?_⟩; conv => whnf))
  conv =>
    arg 2
    rw [hs]
  conv => whnf
  repeat (first | (refine rest_vc ?_; conv => whnf) | (refine ⟨by decide, ?_⟩; conv => whnf))
  exact ⟨rfl, rfl⟩

theorem AnonKeeps_ok (r : Rule) (na nb : Bool) (a b : List Int) (hr : r.wt + a.length + b.length ≤ 2000000) (hrn : r.na = true → r.ads = []) (hna : na = true → a = []) (hnb : nb = true → b = []) (ha : Bts a) (hb : Bts b) :
    CallOk Try.prog 3 [.pure r.pv, bts na a, bts nb b] [] fun v st' => st' = [] ∧ v = vB true := by
  have cs := size_ok r (by omega)
  have ck := keepers_ok r (by omega)
  have hkl : r.keeps.length = r.ads.length := kpsG_len _ _
  have hw := hr
  unfold Rule.wt at hw
  have c1 := Map_ok r.nk (r.keeps.map kp).isEmpty na r.key a r.keeps (by omega) (by omega) hna
  have c2 := Map_ok r.nk (r.keeps.map kp).isEmpty nb r.key b r.keeps (by omega) (by omega) hnb
  unfold mapR at c1 c2
  have fa := asked_len (k := r.key) (keep := r.keeps) (na := na) (a := a)
  have fb := asked_len (k := r.key) (keep := r.keeps) (na := nb) (a := b)
  obtain ⟨a1, a2, _⟩ := mapped_spec r.key r.keeps ha
  obtain ⟨b1, b2, _⟩ := mapped_spec r.key r.keeps hb
  have hcm := mapped_common r.key r.keeps ha hb
  obtain ⟨e, he⟩ : ∃ e, e = askedI r.key r.keeps [(na, a)] := ⟨_, rfl⟩
  obtain ⟨f, hf⟩ : ∃ f, f = askedI r.key r.keeps [(nb, b)] := ⟨_, rfl⟩
  rw [← he] at c1 fa
  rw [← hf] at c2 fb
  obtain ⟨x, hx⟩ : ∃ x, x = if e = 0 then mappedI r.key r.keeps a else [] := ⟨_, rfl⟩
  obtain ⟨y, hy⟩ : ∃ y, y = if f = 0 then mappedI r.key r.keeps b else [] := ⟨_, rfl⟩
  obtain ⟨nx, hnx⟩ : ∃ nx, nx = decide (e ≠ 0) := ⟨_, rfl⟩
  obtain ⟨ny, hny⟩ : ∃ ny, ny = decide (f ≠ 0) := ⟨_, rfl⟩
  rw [← hx, ← hnx] at c1
  rw [← hy, ← hny] at c2
  have hxl : x.length ≤ a.length := by rw [hx]; split; exact Nat.le_of_eq a2; exact Nat.zero_le _
  have hyl : y.length ≤ b.length := by rw [hy]; split; exact Nat.le_of_eq b2; exact Nat.zero_le _
  have c3 := Common_ok na nb a b (by omega) (by omega)
  have c4 := Common_ok nx ny x y (by omega) (by omega)
  unfold comR at c3 c4
  have H : (e = 0 ∧ f = 0) → ((comI a b).2 = 0 ∧ (comI x y).2 = 0 ∧ (comI a b).1 = (comI x y).1 ∧ 0 ≤ (comI a b).1 ∧ (comI a b).1 ≤ 8 * (a.length : Int)) ∨ ((comI a b).2 = 10 ∧ (comI x y).2 = 10 ∧ a.length ≠ b.length) := by
    rintro ⟨h1, h2⟩
    rw [if_pos h1] at hx
    rw [if_pos h2] at hy
    obtain ⟨_, g1, g2, _⟩ := fa h1
    obtain ⟨_, g3, g4, _⟩ := fb h2
    have e1 : isAd a = true ∧ isAd b = true := ⟨decide_eq_true ⟨g1, g2⟩, decide_eq_true ⟨g3, g4⟩⟩
    have e2 : isAd x = true ∧ isAd y = true := by rw [hx, hy]; exact ⟨decide_eq_true (by rw [a2]; exact ⟨g1, g2⟩), decide_eq_true (by rw [b2]; exact ⟨g3, g4⟩)⟩
    unfold comI
    rw [if_pos e1, if_pos e2]
    have e3 : x.length = y.length ↔ a.length = b.length := by rw [hx, hy, a2, b2]
    by_cases hl : a.length = b.length
    · rw [if_pos hl, if_pos (e3.2 hl)]
      have := hcm hl
      rw [← hx, ← hy] at this
      have h8 := (cmB_spec a b).1
      refine .inl ⟨rfl, rfl, ?_, ?_, ?_⟩ <;> simp only <;> omega
    · rw [if_neg hl, if_neg (fun h => hl (e3.1 h))]
      exact .inr ⟨rfl, rfl, hl⟩
  generalize (comI a b).1 = n at c3 H
  generalize (comI a b).2 = g at c3 H
  generalize (comI x y).1 = m at c4 H
  generalize (comI x y).2 = h at c4 H
  clear hcm a1 a2 b1 b2 hx hy he hf fa fb
  have hwt : ∃ w, w = r.wt := ⟨_, rfl⟩
  obtain ⟨w, hwt⟩ := hwt
  rw [← hwt] at cs hr
  generalize r.keeps = ks at *
  obtain ⟨nk, key, nad, ads, nbi, bits⟩ := r
  clear hwt
  refine callOk_of true 0 Try.func3 rfl rfl (Nat.le_refl _) ?_
  conv => whnf
  repeat (first | (refine rest_vc ?_; conv => whnf) | (refine ⟨by decide, ?_⟩; conv => whnf))
  refine CallIn.to (cs) (k := ?_)
  conv => whnf
  repeat (first | (refine rest_vc ?_; conv => whnf) | (refine ⟨by decide, ?_⟩; conv => whnf))
  intro _
  conv => whnf
  repeat (first | (refine rest_vc ?_; conv => whnf) | (refine ⟨by decide, ?_⟩; conv => whnf))
  intro _
  conv => whnf
  repeat (first | (refine rest_vc ?_; conv => whnf) | (refine ⟨by decide, ?_⟩; conv => whnf))
  split <;> rename_i h1 <;> (conv => whnf) <;> repeat (first | (refine rest_vc ?_; conv => whnf) | (refine ⟨by decide, ?_⟩; conv => whnf))
  · refine CallIn.to (known_ok) (k := ?_)
    conv => whnf
    repeat (first | (refine rest_vc ?_; conv => whnf) | (refine ⟨by decide, ?_⟩; conv => whnf))
    exact ⟨rfl, rfl⟩
  · refine CallIn.to (ck) (k := ?_)
    conv => whnf
    repeat (first | (refine rest_vc ?_; conv => whnf) | (refine ⟨by decide, ?_⟩; conv => whnf))
    refine CallIn.to (c1) (k := ?_)
    conv => whnf
    repeat (first | (refine rest_vc ?_; conv => whnf) | (refine ⟨by decide, ?_⟩; conv => whnf))
    refine CallIn.to (c2) (k := ?_)
    conv => whnf
    repeat (first | (refine rest_vc ?_; conv => whnf) | (refine ⟨by decide, ?_⟩; conv => whnf))
    refine CallIn.to (c3) (k := ?_)
    conv => whnf
    repeat (first | (refine rest_vc ?_; conv => whnf) | (refine ⟨by decide, ?_⟩; conv => whnf))
    refine CallIn.to (c4) (k := ?_)
    conv => whnf
    repeat (first | (refine rest_vc ?_; conv => whnf) | (refine ⟨by decide, ?_⟩; conv => whnf))
    split <;> rename_i h2 <;> (conv => whnf) <;> repeat (first | (refine rest_vc ?_; conv => whnf) | (refine ⟨by decide, ?_⟩; conv => whnf))
    · refine CallIn.to (known_ok) (k := ?_)
      conv => whnf
      repeat (first | (refine rest_vc ?_; conv => whnf) | (refine ⟨by decide, ?_⟩; conv => whnf))
      exact ⟨rfl, rfl⟩
    · have h2 : e = 0 := by simpa using h2
      split <;> rename_i h3 <;> (conv => whnf) <;> repeat (first | (refine rest_vc ?_; conv => whnf) | (refine ⟨by decide, ?_⟩; conv => whnf))
      · refine CallIn.to (known_ok) (k := ?_)
        conv => whnf
        repeat (first | (refine rest_vc ?_; conv => whnf) | (refine ⟨by decide, ?_⟩; conv => whnf))
        exact ⟨rfl, rfl⟩
      · have h3 : f = 0 := by simpa using h3
        have H := H ⟨h2, h3⟩
        split <;> rename_i h4 <;> (conv => whnf) <;> repeat (first | (refine rest_vc ?_; conv => whnf) | (refine ⟨by decide, ?_⟩; conv => whnf))
        · have h4 : g ≠ 0 := by simpa using h4
          obtain ⟨g1, g2, g3⟩ : g = 10 ∧ h = 10 ∧ a.length ≠ b.length := by omega
          subst g1 g2
          split <;> rename_i h5 <;> (conv => whnf) <;> repeat (first | (refine rest_vc ?_; conv => whnf) | (refine ⟨by decide, ?_⟩; conv => whnf))
          · intro _
            conv => whnf
            repeat (first | (refine rest_vc ?_; conv => whnf) | (refine ⟨by decide, ?_⟩; conv => whnf))
            intro _
            conv => whnf
            repeat (first | (refine rest_vc ?_; conv => whnf) | (refine ⟨by decide, ?_⟩; conv => whnf))
            split <;> rename_i h6 <;> (conv => whnf) <;> repeat (first | (refine rest_vc ?_; conv => whnf) | (refine ⟨by decide, ?_⟩; conv => whnf))
            · refine CallIn.to (known_ok) (k := ?_)
              conv => whnf
              repeat (first | (refine rest_vc ?_; conv => whnf) | (refine ⟨by decide, ?_⟩; conv => whnf))
              exact ⟨rfl, rfl⟩
            · have h6 : a.length = b.length := by simp [u8s_len] at h6; omega
              exact absurd h6 g3
          · simp at h5
        · have h4 : g = 0 := by simpa using h4
          obtain ⟨g1, g2, g3, g4⟩ : h = 0 ∧ n = m ∧ 0 ≤ n ∧ n ≤ 8 * (a.length : Int) := by omega
          subst g1 g2
          split <;> rename_i h5 <;> (conv => whnf) <;> repeat (first | (refine rest_vc ?_; conv => whnf) | (refine ⟨by decide, ?_⟩; conv => whnf))
          · simp at h5
          · split <;> rename_i h6 <;> (conv => whnf) <;> repeat (first | (refine rest_vc ?_; conv => whnf) | (refine ⟨by decide, ?_⟩; conv => whnf))
            · split <;> rename_i h7 <;> (conv => whnf) <;> repeat (first | (refine rest_vc ?_; conv => whnf) | (refine ⟨by decide, ?_⟩; conv => whnf))
              · intro _
                conv => whnf
                repeat (first | (refine rest_vc ?_; conv => whnf) | (refine ⟨by decide, ?_⟩; conv => whnf))
                split <;> rename_i h8 <;> (conv => whnf) <;> repeat (first | (refine rest_vc ?_; conv => whnf) | (refine ⟨by decide, ?_⟩; conv => whnf))
                · refine CallIn.to (known_ok) (k := ?_)
                  conv => whnf
                  repeat (first | (refine rest_vc ?_; conv => whnf) | (refine ⟨by decide, ?_⟩; conv => whnf))
                  exact ⟨rfl, rfl⟩
                · have h8 := of_decide_eq_false h8
                  rw [u8s_len, w64 (by omega) (by omega)] at h8
                  omega
              · have h7 := of_decide_eq_false h7
                omega
            · simp at h6
end Go.Proofs.Ytlnmkolppgkglaa
