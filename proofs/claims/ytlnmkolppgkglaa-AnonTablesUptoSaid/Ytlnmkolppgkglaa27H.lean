/- law27: a rule's keepers, its size; bits in common. -/
import Derived.Test.Ytlnmkolppgkglaa27G
import Derived.Test.YtlnmkolppgkglaaSyV
set_option linter.all false
set_option maxHeartbeats 4000000
set_option maxRecDepth 100000
namespace Go.Proofs.Ytlnmkolppgkglaa
open Go Go.RowKit Go.Sy Go.Proofs

def comI (a b : List Int) : Int × Int :=
  if isAd a = true ∧ isAd b = true then (if a.length = b.length then (cmB a b, 0) else (0, 10)) else (0, 1)
def comR (a b : List Int) : SV := .tup [vI .i64 (comI a b).1, vI .i64 (comI a b).2]

theorem Common_ok (na nb : Bool) (a b : List Int) (ha : (a.length : Int) ≤ 2000000) (hb : (b.length : Int) ≤ 2000000) : CallOk Try.prog 10 [bts na a, bts nb b] [] fun r st' => st' = [] ∧ r = comR a b := by
  refine callOk_of true 0 Try.func10 rfl rfl (Nat.le_refl _) ?_
  conv => whnf
  repeat (first | (refine rest_vc ?_; conv => whnf) | (refine ⟨by decide, ?_⟩; conv => whnf))
  refine CallIn.tob (isAddress_ok na a) (k := ?_)
  intro b h1
  cases b <;> (conv => whnf) <;> repeat (first | (refine rest_vc ?_; conv => whnf) | (refine ⟨by decide, ?_⟩; conv => whnf))
  · refine ⟨rfl, ?_⟩
    unfold comR comI
    rw [if_neg (by unfold isAd; rw [h1]; simp)]
    rfl
  · refine CallIn.tob (isAddress_ok nb b) (k := ?_)
    intro b h2
    cases b <;> (conv => whnf) <;> repeat (first | (refine rest_vc ?_; conv => whnf) | (refine ⟨by decide, ?_⟩; conv => whnf))
    · refine ⟨rfl, ?_⟩
      unfold comR comI
      rw [if_neg (by unfold isAd; rw [h2]; simp)]
      rfl
    · have h12 : isAd a = true ∧ isAd b = true := ⟨h1, h2⟩
      intro _
      conv => whnf
      repeat (first | (refine rest_vc ?_; conv => whnf) | (refine ⟨by decide, ?_⟩; conv => whnf))
      intro _
      conv => whnf
      repeat (first | (refine rest_vc ?_; conv => whnf) | (refine ⟨by decide, ?_⟩; conv => whnf))
      split <;> rename_i h3 <;> (conv => whnf) <;> repeat (first | (refine rest_vc ?_; conv => whnf) | (refine ⟨by decide, ?_⟩; conv => whnf))
      · have h3 : a.length ≠ b.length := by simp [u8s_len] at h3; omega
        refine ⟨rfl, ?_⟩
        unfold comR comI
        rw [if_pos h12, if_neg h3]
        rfl
      · have h3 : a.length = b.length := by simp [u8s_len] at h3; omega
        have := of_decide_eq_true h1
        refine CallIn.to (common_ok na nb a b h3 (by omega)) (k := ?_)
        conv => whnf
        repeat (first | (refine rest_vc ?_; conv => whnf) | (refine ⟨by decide, ?_⟩; conv => whnf))
        refine ⟨rfl, ?_⟩
        unfold comR comI
        rw [if_pos h12, if_pos h3]
        rfl

def sumL (l : List (Bool × List Int)) : Nat := (l.map fun x => x.2.length).sum
theorem sumL_take (l : List (Bool × List Int)) (i : Nat) (x : Bool × List Int) (h : l[i]? = some x) : sumL (l.take (i + 1)) = sumL (l.take i) + x.2.length := by
  unfold sumL
  rw [List.take_add_one, h]
  simp
theorem sumL_take_le (l : List (Bool × List Int)) (i : Nat) : sumL (l.take i) ≤ sumL l := by
  unfold sumL
  conv => rhs; rw [← List.take_append_drop i l, List.map_append, List.sum_append]
  omega

theorem bytes_ok (nl : Bool) (l : List (Bool × List Int)) (hl : (l.length : Int) + (sumL l : Int) ≤ 2000000) : CallOk Try.prog 14 [.pure (.list 1 nl (l.map pvb))] [] fun r st' => st' = [] ∧ r = vI .i64 ((l.length + sumL l : Nat) : Int) := by
  refine callOk_of true 0 Try.func14 rfl rfl (Nat.le_refl _) ?_
  conv => whnf
  repeat (first | (refine rest_vc ?_; conv => whnf) | (refine ⟨by decide, ?_⟩; conv => whnf))
  intro _
  conv => whnf
  repeat (first | (refine rest_vc ?_; conv => whnf) | (refine ⟨by decide, ?_⟩; conv => whnf))
  refine awp_loop2 (n := 21) (α := Nat) (β := Int) (fun i n => i ≤ l.length ∧ n = l.length + sumL (l.take i)) (fun i n => [(0, .pure (.list 1 nl (l.map pvb))), (3, vI .i64 n), (4, vI .i64 i)]) (fun _ _ => []) (fun i _ => l.length - i) 0 (l.length) (fun _ => 0)
    ⟨Nat.zero_le _, by simp [sumL]⟩ rfl ⟨rfl, congrArg (fun n : Nat => vI .i64 n) (by simp), rfl, trivial⟩ rfl (fun _ _ => rfl) (fun _ _ => ⟨Nat.le_refl _, rfl, rfl⟩) ?_
  rintro i n ⟨hi, hn⟩
  have hle := sumL_take_le l i
  conv => whnf
  repeat (first | (refine rest_vc ?_; conv => whnf) | (refine ⟨by decide, ?_⟩; conv => whnf))
  intro _
  conv => whnf
  repeat (first | (refine rest_vc ?_; conv => whnf) | (refine ⟨by decide, ?_⟩; conv => whnf))
  split <;> rename_i h <;> (conv => whnf) <;> repeat (first | (refine rest_vc ?_; conv => whnf) | (refine ⟨by decide, ?_⟩; conv => whnf))
  · have h := of_decide_eq_true h
    rw [List.length_map] at h
    refine ⟨by rw [List.length_map]; omega, fun q hq => ?_⟩
    obtain ⟨⟨nx, x⟩, hx, rfl⟩ := map_get hq
    rw [Int.toNat_natCast] at hx
    have h2 := sumL_take l i _ hx
    have h3 := sumL_take_le l (i + 1)
    simp only at h2
    conv => whnf
    repeat (first | (refine rest_vc ?_; conv => whnf) | (refine ⟨by decide, ?_⟩; conv => whnf))
    intro _
    conv => whnf
    repeat (first | (refine rest_vc ?_; conv => whnf) | (refine ⟨by decide, ?_⟩; conv => whnf))
    refine ⟨i + 1, l.length + sumL (l.take (i + 1)), fun _ => 0, ⟨by omega, rfl⟩, by omega, rfl, ⟨rfl, congrArg (vI .i64) ?_, congrArg (vI .i64) (by rw [w64 (by omega) (by omega)]; omega), trivial⟩, rfl, fun _ _ => rfl⟩
    rw [u8s_len]
    simp only
    rw [w64 (by omega) (by omega)]
    omega
  · have h := of_decide_eq_false h
    rw [List.length_map] at h
    refine ⟨rfl, congrArg (vI .i64) ?_⟩
    rw [hn, show i = l.length by omega, List.take_length]
    omega

/-- A rule. -/
structure Rule where
  nk : Bool
  key : List Int
  na : Bool
  ads : List (Bool × List Int)
  nb : Bool
  bits : List Int
def i64s (l : List Int) : List PV := l.map fun x => .val (.int .i64 x)
def Rule.pv (r : Rule) : PV := .agg [.list 1 r.nk (u8s r.key), .list 1 r.na (r.ads.map pvb), .list 1 r.nb (i64s r.bits)]
def Rule.wt (r : Rule) : Nat := r.key.length + r.bits.length + (r.ads.length + sumL r.ads)

theorem size_ok (r : Rule) (hr : r.wt ≤ 2000000) : CallOk Try.prog 6 [.pure r.pv] [] fun v st' => st' = [] ∧ v = vI .i64 (r.wt : Nat) := by
  obtain ⟨nk, key, na, ads, nb, bits⟩ := r
  unfold Rule.wt at hr
  simp only at hr
  refine callOk_of true 0 Try.func6 rfl rfl (Nat.le_refl _) ?_
  conv => whnf
  repeat (first | (refine rest_vc ?_; conv => whnf) | (refine ⟨by decide, ?_⟩; conv => whnf))
  refine hand_draw [] (fun n r => r = vI .i64 ((ads.length + sumL ads : Nat) : Int)) rfl (by kernel_rfl) rfl ?_
  conv => whnf
  repeat (first | (refine rest_vc ?_; conv => whnf) | (refine ⟨by decide, ?_⟩; conv => whnf))
  intro _
  conv => whnf
  repeat (first | (refine rest_vc ?_; conv => whnf) | (refine ⟨by decide, ?_⟩; conv => whnf))
  intro _
  conv => whnf
  repeat (first | (refine rest_vc ?_; conv => whnf) | (refine ⟨by decide, ?_⟩; conv => whnf))
  refine CallIn.dto (bytes_ok na ads (by omega)) (k := ?_)
  conv => whnf
  repeat (first | (refine rest_vc ?_; conv => whnf) | (refine ⟨by decide, ?_⟩; conv => whnf))
  refine ⟨rfl, congrArg (vI .i64) ?_⟩
  unfold Rule.wt
  simp only [u8s_len, i64s, List.length_map]
  rw [w64 (n := (key.length : Int) + bits.length) (by omega) (by omega), w64 (by omega) (by omega)]
  omega

def kpsG : List (Bool × List Int) → List Int → List K
  | [], _ => []
  | a :: r, [] => (a, 0) :: kpsG r []
  | a :: r, b :: bs => (a, b) :: kpsG r bs
theorem kpsG_len : ∀ (l : List (Bool × List Int)) (b : List Int), (kpsG l b).length = l.length
  | [], _ => rfl
  | a :: r, [] => by simp [kpsG, kpsG_len r]
  | a :: r, b :: bs => by simp [kpsG, kpsG_len r]
theorem kpsG_get : ∀ (l : List (Bool × List Int)) (b : List Int) (i : Nat) (x : Bool × List Int), l[i]? = some x → (kpsG l b)[i]? = some (x, b.getD i 0)
  | [], b, i, x, h => by simp at h
  | a :: r, [], 0, x, h => by simp at h; subst h; rfl
  | a :: r, b :: bs, 0, x, h => by simp at h; subst h; rfl
  | a :: r, [], i + 1, x, h => by simpa [kpsG] using kpsG_get r [] i x (by simpa using h)
  | a :: r, b :: bs, i + 1, x, h => by simpa [kpsG] using kpsG_get r bs i x (by simpa using h)
def Rule.keeps (r : Rule) : List K := kpsG r.ads r.bits
theorem take_snoc {α : Type} (l : List α) (i : Nat) (x : α) (h : l[i]? = some x) : l.take (i + 1) = l.take i ++ [x] := by rw [List.take_add_one, h]; rfl


theorem i64s_get {l : List Int} {i : Nat} {p : PV} (h : (i64s l)[i]? = some p) : p = .val (.int .i64 (l.getD i 0)) ∧ i < l.length := by
  unfold i64s at h
  rw [List.getElem?_map, Option.map_eq_some_iff] at h
  obtain ⟨x, hx, rfl⟩ := h
  exact ⟨by rw [List.getD_eq_getElem?_getD, hx]; rfl, (List.getElem?_eq_some_iff.1 hx).1⟩

theorem keepers_ok (r : Rule) (hr : r.wt ≤ 2000000) : CallOk Try.prog 8 [.pure r.pv] [] fun v st' => st' = [] ∧ v = .tup [.pure (.list 2 (r.keeps.map kp).isEmpty (r.keeps.map kp)), .pure (.list 2 (r.keeps.map kp).isEmpty (r.keeps.map kp))] := by
  have hlen : r.keeps.length = r.ads.length := kpsG_len _ _
  have hget : ∀ (i : Nat) (x : Bool × List Int), r.ads[i]? = some x → r.keeps[i]? = some (x, r.bits.getD i 0) := fun i x h => kpsG_get _ _ _ _ h
  obtain ⟨ks, hks⟩ : ∃ ks, ks = r.keeps := ⟨_, rfl⟩
  rw [← hks] at hlen hget ⊢
  clear hks
  obtain ⟨nk, key, na, ads, nb, bits⟩ := r
  unfold Rule.wt at hr
  simp only at hr hlen hget ⊢
  refine callOk_of true 0 Try.func8 rfl rfl (Nat.le_refl _) ?_
  conv => whnf
  repeat (first | (refine rest_vc ?_; conv => whnf) | (refine ⟨by decide, ?_⟩; conv => whnf))
  refine hand_ghost 4 51 2 rfl ?_
  refine hand_ghost 5 52 2 rfl ?_
  refine awp_loop (n := 47) (α := Nat) (fun i => i ≤ ads.length) (fun i => [(1, .ptr 0 0), (4, .vref 1 0), (5, .vref 2 0), (6, vI .i64 i)])
    (fun i => [.cells 26 [.pure (.list 1 nk (u8s key)), .pure (.list 1 na (ads.map pvb)), .pure (.list 1 nb (i64s bits))], .vec 0 51 2 ((ks.take i).map kp).isEmpty ((ks.take i).map kp), .vec 0 52 2 ((ks.take i).map kp).isEmpty ((ks.take i).map kp)])
    (fun i => ads.length - i) 0 (fun _ => 0)
    (Nat.zero_le _) rfl ⟨rfl, rfl, rfl, rfl, trivial⟩ rfl (fun _ _ => rfl) (fun _ => ⟨Nat.zero_le _, rfl, rfl⟩) ?_
  intro i hi
  conv => whnf
  repeat (first | (refine rest_vc ?_; conv => whnf) | (refine ⟨by decide, ?_⟩; conv => whnf))
  intro _
  conv => whnf
  repeat (first | (refine rest_vc ?_; conv => whnf) | (refine ⟨by decide, ?_⟩; conv => whnf))
  split <;> rename_i h <;> (conv => whnf) <;> repeat (first | (refine rest_vc ?_; conv => whnf) | (refine ⟨by decide, ?_⟩; conv => whnf))
  · have h := of_decide_eq_true h
    rw [List.length_map] at h
    intro _
    conv => whnf
    repeat (first | (refine rest_vc ?_; conv => whnf) | (refine ⟨by decide, ?_⟩; conv => whnf))
    split <;> rename_i h2 <;> (conv => whnf) <;> repeat (first | (refine rest_vc ?_; conv => whnf) | (refine ⟨by decide, ?_⟩; conv => whnf))
    · have h2 := of_decide_eq_true h2
      simp only [i64s, List.length_map] at h2
      refine ⟨by simp only [i64s, List.length_map]; omega, fun q hq => ?_⟩
      obtain ⟨rfl, hlt⟩ := i64s_get hq
      have hb : bits.getD i 0 = bits.getD (i : Int).toNat 0 := by rw [Int.toNat_natCast]
      conv => whnf
      repeat (first | (refine rest_vc ?_; conv => whnf) | (refine ⟨by decide, ?_⟩; conv => whnf))
      refine ⟨by rw [List.length_map]; omega, fun q hq => ?_⟩
      obtain ⟨y, hy, rfl⟩ := map_get hq
      rw [Int.toNat_natCast] at hy
      have hk := hget i y hy
      rw [hb] at hk
      have ht := take_snoc ks i _ hk
      have hle : (ks.take i).length ≤ i := List.length_take_le _ _
      conv => whnf
      repeat (first | (refine rest_vc ?_; conv => whnf) | (refine ⟨by decide, ?_⟩; conv => whnf))
      refine ⟨by show (_ + 1) * 32 ≤ 140737488355328; rw [List.length_map]; omega, ?_⟩
      conv => whnf
      repeat (first | (refine rest_vc ?_; conv => whnf) | (refine ⟨by decide, ?_⟩; conv => whnf))
      refine ⟨by rw [List.length_map]; omega, fun q hq => ?_⟩
      obtain ⟨y', hy', rfl⟩ := map_get hq
      rw [Int.toNat_natCast, hy] at hy'
      cases hy'
      conv => whnf
      repeat (first | (refine rest_vc ?_; conv => whnf) | (refine ⟨by decide, ?_⟩; conv => whnf))
      refine ⟨by show (_ + 1) * 32 ≤ 140737488355328; rw [List.length_map]; omega, ?_⟩
      conv => whnf
      repeat (first | (refine rest_vc ?_; conv => whnf) | (refine ⟨by decide, ?_⟩; conv => whnf))
      refine ⟨i + 1, fun _ => 1, by omega, by omega, rfl, ⟨rfl, rfl, rfl, congrArg (vI .i64) (by rw [w64 (by omega) (by omega)]; omega), trivial⟩, ?_, fun o h => by cases h⟩
      rw [ht, List.map_append, List.map_cons, List.map_nil, ← isEmpty_snoc (List.map kp (ks.take i)).isEmpty]
      rfl
    · have h2 := of_decide_eq_false h2
      simp only [i64s, List.length_map] at h2
      have hb : bits.getD i 0 = 0 := by rw [List.getD_eq_getElem?_getD, List.getElem?_eq_none (by omega)]; rfl
      refine ⟨by rw [List.length_map]; omega, fun q hq => ?_⟩
      obtain ⟨y, hy, rfl⟩ := map_get hq
      rw [Int.toNat_natCast] at hy
      have hk := hget i y hy
      rw [hb] at hk
      have ht := take_snoc ks i _ hk
      have hle : (ks.take i).length ≤ i := List.length_take_le _ _
      conv => whnf
      repeat (first | (refine rest_vc ?_; conv => whnf) | (refine ⟨by decide, ?_⟩; conv => whnf))
      refine ⟨by show (_ + 1) * 32 ≤ 140737488355328; rw [List.length_map]; omega, ?_⟩
      conv => whnf
      repeat (first | (refine rest_vc ?_; conv => whnf) | (refine ⟨by decide, ?_⟩; conv => whnf))
      refine ⟨by rw [List.length_map]; omega, fun q hq => ?_⟩
      obtain ⟨y', hy', rfl⟩ := map_get hq
      rw [Int.toNat_natCast, hy] at hy'
      cases hy'
      conv => whnf
      repeat (first | (refine rest_vc ?_; conv => whnf) | (refine ⟨by decide, ?_⟩; conv => whnf))
      refine ⟨by show (_ + 1) * 32 ≤ 140737488355328; rw [List.length_map]; omega, ?_⟩
      conv => whnf
      repeat (first | (refine rest_vc ?_; conv => whnf) | (refine ⟨by decide, ?_⟩; conv => whnf))
      refine ⟨i + 1, fun _ => 1, by omega, by omega, rfl, ⟨rfl, rfl, rfl, congrArg (vI .i64) (by rw [w64 (by omega) (by omega)]; omega), trivial⟩, ?_, fun o h => by cases h⟩
      rw [ht, List.map_append, List.map_cons, List.map_nil, ← isEmpty_snoc (List.map kp (ks.take i)).isEmpty]
      rfl
  · have h := of_decide_eq_false h
    rw [List.length_map] at h
    have e : ks.take i = ks := List.take_of_length_le (by omega)
    refine ⟨rfl, ?_⟩
    show SV.tup [SV.pure (.list 2 ((ks.take i).map kp).isEmpty ((ks.take i).map kp)), SV.pure (.list 2 ((ks.take i).map kp).isEmpty ((ks.take i).map kp))] = _
    rw [e]
end Go.Proofs.Ytlnmkolppgkglaa
