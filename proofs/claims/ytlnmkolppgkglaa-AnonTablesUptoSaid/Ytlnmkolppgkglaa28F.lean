/- law27: AnonTables. -/
import Derived.Test.Ytlnmkolppgkglaa28E
set_option linter.all false
set_option maxHeartbeats 4000000
set_option maxRecDepth 100000
namespace Go.Proofs.Ytlnmkolppgkglaa
open Go Go.RowKit Go.Sy Go.Proofs Go.Sort

def sumP (ps : List BP) : Nat := (ps.map fun p => p.1.2.length + p.2.2.length).sum
theorem sumP_take (l : List BP) (i : Nat) (x : BP) (h : l[i]? = some x) : sumP (l.take (i + 1)) = sumP (l.take i) + (x.1.2.length + x.2.2.length) := by
  rw [take_snoc l i x h]
  simp [sumP]
theorem sumP_take_le (l : List BP) (i : Nat) : sumP (l.take i) ≤ sumP l := by
  have := congrArg (fun l : List BP => (l.map fun p => p.1.2.length + p.2.2.length).sum) (List.take_append_drop i l)
  simp only [List.map_append, List.sum_append] at this
  unfold sumP
  omega

/-- Mapped pairs have a map. -/
theorem lrn_mapped (k : List Int) (keep : List K) (S : List (List Int)) (hl : S.length ≤ 200) (hb : ∀ b ∈ S, Bts b ∧ 1 ≤ b.length ∧ b.length ≤ 16) :
    lrnI (S.map fun b => ((false, b), (false, mappedI k keep b))) = (true, 0) := by
  have hbad : (S.map fun b => (((false, b), (false, mappedI k keep b)) : BP)).any badP = false := by
    rw [List.any_eq_false]
    intro x hx
    obtain ⟨b, hbm, rfl⟩ := List.mem_map.1 hx
    obtain ⟨h1, h2, h3⟩ := hb b hbm
    have hm := (mapped_spec k keep h1).2.1
    have e1 : isAd b = true := decide_eq_true ⟨h2, h3⟩
    have e2 : isAd (mappedI k keep b) = true := decide_eq_true (by rw [hm]; exact ⟨h2, h3⟩)
    simp [badP, e1, e2]
  unfold lrnI
  rw [hbad, if_neg (by simp), if_neg (by simp; exact hl)]
  have : lrn (S.map fun b => (((false, b), (false, mappedI k keep b)) : BP)) = true := by
    unfold lrn
    rw [List.all_eq_true]
    intro i hi
    have hi : i < S.length := by simpa using hi
    obtain ⟨b, hbi⟩ : ∃ b, S[i]? = some b := ⟨_, List.getElem?_eq_getElem hi⟩
    have hx : (S.map fun b => (((false, b), (false, mappedI k keep b)) : BP))[i]? = some ((false, b), (false, mappedI k keep b)) := by rw [List.getElem?_map, hbi]; rfl
    rw [fL_at hx]
    obtain ⟨h1, h2, h3⟩ := hb b (List.mem_of_getElem? hbi)
    unfold okP
    rw [Bool.and_eq_true]
    refine ⟨decide_eq_true (mapped_spec k keep h1).2.1.symm, ?_⟩
    rw [List.all_eq_true]
    intro q hq
    obtain ⟨c, hc, rfl⟩ := List.mem_map.1 (List.mem_of_mem_take hq)
    obtain ⟨g1, g2, g3⟩ := hb c hc
    unfold okQ
    by_cases he : c.length = b.length
    · simp [he, mapped_common k keep h1 g1 he.symm]
    · simp [he]
  rw [this]

theorem AnonTables_ok (r : Rule) (na np : Bool) (l : List BV) (ps : List BP) (hr : r.wt + (l.length + sumL l) + (ps.length + sumP ps) ≤ 2000000) (hnl : ∀ x ∈ l, x.1 = true → x.2 = []) (hb : ∀ x ∈ l, Bts x.2)
    (hp : ∀ p ∈ ps, Bts p.1.2 ∧ Bts p.2.2) (hkb : ∀ x ∈ r.ads, Bts x.2) :
    CallOk Try.prog 5 [.pure r.pv, .pure (.list 1 na (l.map pvb)), .pure (.list 2 np (ps.map pvp))] [] fun v st' => st' = [] ∧ v = vB true := by
  have cs := size_ok r (by omega)
  have ck := keepers_ok r (by omega)
  have cb := bytes_ok na l (by omega)
  have hkl : r.keeps.length = r.ads.length := kpsG_len _ _
  have hw := hr
  unfold Rule.wt at hw
  have hkbts : KBts r.keeps := by
    intro x hx
    obtain ⟨i, hi, rfl⟩ := List.mem_iff_getElem.1 hx
    have hi' : i < r.ads.length := by omega
    have := kpsG_get r.ads r.bits i _ (List.getElem?_eq_getElem hi')
    have e : r.keeps[i]? = some (r.ads[i], r.bits.getD i 0) := this
    rw [List.getElem?_eq_getElem hi] at e
    have e := Option.some.inj e
    rw [e]
    exact hkb _ (List.getElem_mem _)
  have c1 := Table_ok r.nk (r.keeps.map kp).isEmpty na r.key r.keeps l (by omega) (by omega) (by omega) hnl hb
  have c2 := rTable_ok r.nk (r.keeps.map kp).isEmpty na r.key r.keeps l (by omega) (by omega) (by omega) hb hkbts
  have c3 := Learn_ok np ps (by omega)
  have c4 := rLearn_ok np ps (by omega) hp
  have hlen : ∀ x ∈ l, askedI r.key r.keeps l = 0 → 1 ≤ x.2.length ∧ x.2.length ≤ 16 := fun x hx e => (asked0 e).2.1 x hx
  have hS : ∀ S, (askedI r.key r.keeps l ≠ 0 → S = []) → (askedI r.key r.keeps l = 0 → SrtS S ∧ ∀ b, b ∈ S ↔ b ∈ l.map (·.2)) → ∀ b ∈ S, Bts b ∧ 1 ≤ b.length ∧ b.length ≤ 16 := fun S h1 h2 b hbS => by
    by_cases e : askedI r.key r.keeps l = 0
    · obtain ⟨x, hx, rfl⟩ := List.mem_map.1 (((h2 e).2 b).1 hbS)
      exact ⟨hb x hx, hlen x hx e⟩
    · rw [h1 e] at hbS; cases hbS
  have huni : ∀ S S', (askedI r.key r.keeps l ≠ 0 → S = []) → (askedI r.key r.keeps l = 0 → SrtS S ∧ ∀ b, b ∈ S ↔ b ∈ l.map (·.2)) → (askedI r.key r.keeps l ≠ 0 → S' = []) → (askedI r.key r.keeps l = 0 → SrtS S' ∧ ∀ b, b ∈ S' ↔ b ∈ l.map (·.2)) → S' = S := fun S S' h1 h2 h3 h4 => by
    by_cases e : askedI r.key r.keeps l = 0
    · obtain ⟨a1, a2⟩ := h2 e
      obtain ⟨b1, b2⟩ := h4 e
      exact srt_uniq b1 a1 fun b => (b2 b).trans (a2 b).symm
    · rw [h1 e, h3 e]
  have c5 : ∀ S : List (List Int), S.length ≤ 200 → (∀ b ∈ S, Bts b ∧ 1 ≤ b.length ∧ b.length ≤ 16) → CallOk Try.prog 17 [.pure (.list 2 S.isEmpty (S.map (prT r.key r.keeps)))] [] fun v st' => st' = [] ∧ v = .tup [vB true, vI .i64 0] := fun S h1 h2 => by
    have := Learn_ok S.isEmpty (S.map fun b => ((false, b), (false, mappedI r.key r.keeps b))) (by simp; omega)
    rw [lrnR_of (lrn_mapped r.key r.keeps S h1 h2), List.map_map] at this
    exact this
  unfold TabR at c1 c2
  obtain ⟨e, he⟩ : ∃ e, e = askedI r.key r.keeps l := ⟨_, rfl⟩
  rw [← he] at c1 c2 hS huni
  obtain ⟨pr, hpr⟩ : ∃ pr, pr = prT r.key r.keeps := ⟨_, rfl⟩
  have hpr2 : ∀ b, ∃ m, pr b = .agg [.list 1 false (u8s b), .list 1 false (u8s m)] := fun b => by rw [hpr]; exact ⟨_, rfl⟩
  rw [← hpr] at c1 c2 c5
  obtain ⟨⟨la, lb⟩, hlab⟩ : ∃ x, x = lrnI ps := ⟨_, rfl⟩
  have elr : lrnR ps = .tup [vB la, vI .i64 lb] := lrnR_of hlab.symm
  rw [elr] at c3 c4
  clear hpr elr hlab hlen hkbts hkb he hw
  obtain ⟨w, hwt⟩ : ∃ w, w = r.wt := ⟨_, rfl⟩
  rw [← hwt] at cs hr
  obtain ⟨ks, hks⟩ : ∃ ks, ks = r.keeps := ⟨_, rfl⟩
  rw [← hks] at ck c1 c2
  clear hks hkl hwt
  obtain ⟨nk, key, nad, ads, nbi, bits⟩ := r
  refine callOk_of true 0 Try.func5 rfl rfl (Nat.le_refl _) ?_
  conv => whnf
  repeat (first | (refine rest_vc ?_; conv => whnf) | (refine ⟨by decide, ?_⟩; conv => whnf))
  refine CallIn.to (cs) (k := ?_)
  conv => whnf
  repeat (first | (refine rest_vc ?_; conv => whnf) | (refine ⟨by decide, ?_⟩; conv => whnf))
  refine CallIn.to (cb) (k := ?_)
  conv => whnf
  repeat (first | (refine rest_vc ?_; conv => whnf) | (refine ⟨by decide, ?_⟩; conv => whnf))
  intro _
  conv => whnf
  repeat (first | (refine rest_vc ?_; conv => whnf) | (refine ⟨by decide, ?_⟩; conv => whnf))
  have hsw : sumL l ≤ 2000000 := by omega
  refine awp_loop2 (n := 158) (α := Nat) (β := Int) (fun i n => i ≤ ps.length ∧ n = (w + (l.length + sumL l) + (ps.length + sumP (ps.take i)) : Nat))
    (fun i n => [(1, .pure (.list 1 na (l.map pvb))), (2, .pure (.list 2 np (ps.map pvp))), (3, .ptr 0 0), (7, vI .i64 n), (8, vI .i64 i)]) (fun _ _ => [.cells 26 [bts nk key, .pure (.list 1 nad (ads.map pvb)), .pure (.list 1 nbi (i64s bits))]]) (fun i _ => ps.length - i) 0 ((w + (l.length + sumL l) + ps.length : Nat)) (fun _ => 0)
    ⟨Nat.zero_le _, by simp [sumP]⟩ rfl ⟨rfl, rfl, rfl, congrArg (vI .i64) ?_, rfl, trivial⟩ rfl (fun _ _ => rfl) (fun _ _ => ⟨Nat.zero_le _, rfl, rfl⟩) ?_
  · simp only [List.length_map]
    rw [w64 (n := (w : Int) + ((l.length + sumL l : Nat) : Int)) (by omega) (by omega), w64 (by omega) (by omega)]
    omega
  rintro i n ⟨hi, hn⟩
  conv => whnf
  repeat (first | (refine rest_vc ?_; conv => whnf) | (refine ⟨by decide, ?_⟩; conv => whnf))
  intro _
  conv => whnf
  repeat (first | (refine rest_vc ?_; conv => whnf) | (refine ⟨by decide, ?_⟩; conv => whnf))
  split <;> rename_i h <;> (conv => whnf) <;> repeat (first | (refine rest_vc ?_; conv => whnf) | (refine ⟨by decide, ?_⟩; conv => whnf))
  · have h := of_decide_eq_true h
    rw [List.length_map] at h
    obtain ⟨p, hpi⟩ : ∃ p, ps[i]? = some p := ⟨_, List.getElem?_eq_getElem (by omega)⟩
    have h2 := sumP_take ps i p hpi
    have h3 := sumP_take_le ps (i + 1)
    obtain ⟨⟨n1, a1⟩, ⟨n2, a2⟩⟩ := p
    simp only at h2
    have look : ∀ (q : PV), (ps.map pvp)[((i : Int)).toNat]? = some q → q = pvp ((n1, a1), (n2, a2)) := fun q hq => by
      obtain ⟨p, hp, rfl⟩ := map_get hq
      rw [Int.toNat_natCast, hpi] at hp
      cases hp
      rfl
    refine hand_draw [] (fun _ _ => True) rfl (by kernel_rfl) rfl ?_
    conv => whnf
    repeat (first | (refine rest_vc ?_; conv => whnf) | (refine ⟨by decide, ?_⟩; conv => whnf))
    refine ⟨by rw [List.length_map]; omega, fun q hq => ?_⟩
    obtain rfl := look q hq
    conv => whnf
    repeat (first | (refine rest_vc ?_; conv => whnf) | (refine ⟨by decide, ?_⟩; conv => whnf))
    intro _
    conv => whnf
    repeat (first | (refine rest_vc ?_; conv => whnf) | (refine ⟨by decide, ?_⟩; conv => whnf))
    refine ⟨by rw [List.length_map]; omega, fun q hq => ?_⟩
    obtain rfl := look q hq
    conv => whnf
    repeat (first | (refine rest_vc ?_; conv => whnf) | (refine ⟨by decide, ?_⟩; conv => whnf))
    intro _
    conv => whnf
    repeat (first | (refine rest_vc ?_; conv => whnf) | (refine ⟨by decide, ?_⟩; conv => whnf))
    refine ⟨i + 1, _, fun _ => 0, ⟨by omega, ?_⟩, by omega, rfl, ⟨rfl, rfl, rfl, rfl, congrArg (vI .i64) (succ64 (by omega)), trivial⟩, rfl, fun _ _ => rfl⟩
    rw [u8s_len, u8s_len, hn, h2]
    rw [w64 (n := (a1.length : Int) + (a2.length : Int)) (by omega) (by omega), w64 (by omega) (by omega)]
    omega
  have h := of_decide_eq_false h
  rw [List.length_map] at h
  conv => whnf
  repeat (first | (refine rest_vc ?_; conv => whnf) | (refine ⟨by decide, ?_⟩; conv => whnf))
  split <;> rename_i h1 <;> (conv => whnf) <;> repeat (first | (refine rest_vc ?_; conv => whnf) | (refine ⟨by decide, ?_⟩; conv => whnf))
  · refine CallIn.to (known_ok) (k := ?_)
    conv => whnf
    repeat (first | (refine rest_vc ?_; conv => whnf) | (refine ⟨by decide, ?_⟩; conv => whnf))
    exact ⟨rfl, rfl⟩
  refine CallIn.to (ck) (k := ?_)
  conv => whnf
  repeat (first | (refine rest_vc ?_; conv => whnf) | (refine ⟨by decide, ?_⟩; conv => whnf))
  refine CallIn.top c1 (k := ?_)
  rintro r ⟨S, rfl, s1, s2⟩
  conv => whnf
  repeat (first | (refine rest_vc ?_; conv => whnf) | (refine ⟨by decide, ?_⟩; conv => whnf))
  refine CallIn.top c2 (k := ?_)
  rintro r ⟨S', rfl, s3, s4⟩
  obtain rfl := (huni S S' s1 s2 s3 s4).symm
  have hSb := hS _ s1 s2
  have hml : (S.map pr).length = S.length := List.length_map _
  conv => whnf
  repeat (first | (refine rest_vc ?_; conv => whnf) | (refine ⟨by decide, ?_⟩; conv => whnf))
  refine CallIn.to (c3) (k := ?_)
  conv => whnf
  repeat (first | (refine rest_vc ?_; conv => whnf) | (refine ⟨by decide, ?_⟩; conv => whnf))
  refine CallIn.to (c4) (k := ?_)
  conv => whnf
  repeat (first | (refine rest_vc ?_; conv => whnf) | (refine ⟨by decide, ?_⟩; conv => whnf))
  intro _
  conv => whnf
  repeat (first | (refine rest_vc ?_; conv => whnf) | (refine ⟨by decide, ?_⟩; conv => whnf))
  intro _
  conv => whnf
  repeat (first | (refine rest_vc ?_; conv => whnf) | (refine ⟨by decide, ?_⟩; conv => whnf))
  split <;> rename_i h2 <;> (conv => whnf) <;> repeat (first | (refine rest_vc ?_; conv => whnf) | (refine ⟨by decide, ?_⟩; conv => whnf))
  · simp at h2
  split <;> rename_i h3 <;> (conv => whnf) <;> repeat (first | (refine rest_vc ?_; conv => whnf) | (refine ⟨by decide, ?_⟩; conv => whnf))
  · simp at h3
  split <;> rename_i h4 <;> (conv => whnf) <;> repeat (first | (refine rest_vc ?_; conv => whnf) | (refine ⟨by decide, ?_⟩; conv => whnf))
  · simp at h4
  split <;> rename_i h5 <;> (conv => whnf) <;> repeat (first | (refine rest_vc ?_; conv => whnf) | (refine ⟨by decide, ?_⟩; conv => whnf))
  · simp at h5
  refine awp_loop (n := 158) (α := Nat) (fun j => j ≤ S.length) (fun j => [(11, .pure (.list 2 S.isEmpty (S.map pr))), (12, vI .i64 e), (13, .pure (.list 2 S.isEmpty (S.map pr))), (19, vI .i64 j)]) (fun _ => []) (fun j => S.length - j) 0 (fun _ => 0)
    (Nat.zero_le _) rfl ⟨rfl, rfl, rfl, rfl, trivial⟩ rfl (fun _ _ => rfl) (fun _ => ⟨Nat.zero_le _, rfl, rfl⟩) ?_
  intro j hj
  conv => whnf
  repeat (first | (refine rest_vc ?_; conv => whnf) | (refine ⟨by decide, ?_⟩; conv => whnf))
  intro _
  conv => whnf
  repeat (first | (refine rest_vc ?_; conv => whnf) | (refine ⟨by decide, ?_⟩; conv => whnf))
  split <;> rename_i h6 <;> (conv => whnf) <;> repeat (first | (refine rest_vc ?_; conv => whnf) | (refine ⟨by decide, ?_⟩; conv => whnf))
  · have h6 := of_decide_eq_true h6
    rw [List.length_map] at h6
    obtain ⟨b, hbj⟩ : ∃ b, S[j]? = some b := ⟨_, List.getElem?_eq_getElem (by omega)⟩
    obtain ⟨m, hm⟩ := hpr2 b
    have look : ∀ (q : PV), (S.map pr)[((j : Int)).toNat]? = some q → q = .agg [.list 1 false (u8s b), .list 1 false (u8s m)] := fun q hq => by
      obtain ⟨p, hp, rfl⟩ := map_get hq
      rw [Int.toNat_natCast, hbj] at hp
      cases hp
      exact hm
    have q1 : (!((strOfNums b).toList == (strOfNums b).toList)) = false := by simp
    have q2 : (!((strOfNums m).toList == (strOfNums m).toList)) = false := by simp
    refine hand_draw [] (fun _ _ => True) rfl (by kernel_rfl) rfl ?_
    conv => whnf
    repeat (first | (refine rest_vc ?_; conv => whnf) | (refine ⟨by decide, ?_⟩; conv => whnf))
    refine ⟨by rw [List.length_map]; omega, fun q hq => ?_⟩
    obtain rfl := look q hq
    conv => whnf
    repeat (first | (refine rest_vc ?_; conv => whnf) | (refine ⟨by decide, ?_⟩; conv => whnf))
    refine ⟨⟨_, rfl⟩, fun b' hb' => ?_⟩
    obtain rfl : b = b' := u8s_inj hb'
    conv => whnf
    repeat (first | (refine rest_vc ?_; conv => whnf) | (refine ⟨by decide, ?_⟩; conv => whnf))
    refine ⟨by rw [List.length_map]; omega, fun q hq => ?_⟩
    obtain rfl := look q hq
    conv => whnf
    repeat (first | (refine rest_vc ?_; conv => whnf) | (refine ⟨by decide, ?_⟩; conv => whnf))
    refine ⟨⟨_, rfl⟩, fun b' hb' => ?_⟩
    obtain rfl : b = b' := u8s_inj hb'
    conv => whnf
    repeat (refine ⟨by decide, ?_⟩; conv => whnf)
    rw [q1]
    conv => whnf
    repeat (first | (refine rest_vc ?_; conv => whnf) | (refine ⟨by decide, ?_⟩; conv => whnf))
    refine ⟨by rw [List.length_map]; omega, fun q hq => ?_⟩
    obtain rfl := look q hq
    conv => whnf
    repeat (first | (refine rest_vc ?_; conv => whnf) | (refine ⟨by decide, ?_⟩; conv => whnf))
    refine ⟨⟨_, rfl⟩, fun b' hb' => ?_⟩
    obtain rfl : m = b' := u8s_inj hb'
    conv => whnf
    repeat (first | (refine rest_vc ?_; conv => whnf) | (refine ⟨by decide, ?_⟩; conv => whnf))
    refine ⟨by rw [List.length_map]; omega, fun q hq => ?_⟩
    obtain rfl := look q hq
    conv => whnf
    repeat (first | (refine rest_vc ?_; conv => whnf) | (refine ⟨by decide, ?_⟩; conv => whnf))
    refine ⟨⟨_, rfl⟩, fun b' hb' => ?_⟩
    obtain rfl : m = b' := u8s_inj hb'
    conv => whnf
    repeat (refine ⟨by decide, ?_⟩; conv => whnf)
    rw [q2]
    conv => whnf
    repeat (first | (refine rest_vc ?_; conv => whnf) | (refine ⟨by decide, ?_⟩; conv => whnf))
    exact ⟨j + 1, fun _ => 0, by omega, by omega, rfl, ⟨rfl, rfl, rfl, congrArg (vI .i64) (succ64 (by omega)), trivial⟩, rfl, fun _ _ => rfl⟩
  have h6 := of_decide_eq_false h6
  conv => whnf
  repeat (first | (refine rest_vc ?_; conv => whnf) | (refine ⟨by decide, ?_⟩; conv => whnf))
  intro _
  conv => whnf
  repeat (first | (refine rest_vc ?_; conv => whnf) | (refine ⟨by decide, ?_⟩; conv => whnf))
  split <;> rename_i h7 <;> (conv => whnf) <;> repeat (first | (refine rest_vc ?_; conv => whnf) | (refine ⟨by decide, ?_⟩; conv => whnf))
  · refine CallIn.to (known_ok) (k := ?_)
    conv => whnf
    repeat (first | (refine rest_vc ?_; conv => whnf) | (refine ⟨by decide, ?_⟩; conv => whnf))
    exact ⟨rfl, rfl⟩
  have h7 := of_decide_eq_false h7
  rw [List.length_map] at h7
  refine CallIn.to (c5 S (by omega) hSb) (k := ?_)
  conv => whnf
  repeat (first | (refine rest_vc ?_; conv => whnf) | (refine ⟨by decide, ?_⟩; conv => whnf))
  split <;> rename_i h8 <;> (conv => whnf) <;> repeat (first | (refine rest_vc ?_; conv => whnf) | (refine ⟨by decide, ?_⟩; conv => whnf))
  · refine CallIn.to (known_ok) (k := ?_)
    conv => whnf
    repeat (first | (refine rest_vc ?_; conv => whnf) | (refine ⟨by decide, ?_⟩; conv => whnf))
    exact ⟨rfl, rfl⟩
  · refine CallIn.to (known_ok) (k := ?_)
    conv => whnf
    repeat (first | (refine rest_vc ?_; conv => whnf) | (refine ⟨by decide, ?_⟩; conv => whnf))
    exact ⟨rfl, rfl⟩
end Go.Proofs.Ytlnmkolppgkglaa
