/- law27: lists that are asked; keepers; the turns of bits. -/
import Derived.Test.Ytlnmkolppgkglaa27E
set_option linter.all false
set_option maxHeartbeats 4000000
set_option maxRecDepth 100000
namespace Go.Proofs.Ytlnmkolppgkglaa
open Go Go.RowKit Go.Sy Go.Proofs

theorem map_get {α : Type} {f : α → PV} {l : List α} {i : Nat} {p : PV} (h : (l.map f)[i]? = some p) : ∃ x, l[i]? = some x ∧ p = f x := by
  rw [List.getElem?_map, Option.map_eq_some_iff] at h
  obtain ⟨x, hx, rfl⟩ := h
  exact ⟨x, hx, rfl⟩

/-- The place of the first one that is so, from n on; -1 for none. -/
def idxF {α : Type} (p : α → Bool) : List α → Nat → Int
  | [], _ => -1
  | x :: r, n => if p x then n else idxF p r (n + 1)
theorem idxF_any {α : Type} (p : α → Bool) : ∀ (l : List α) (n : Nat), decide (idxF p l n ≥ 0) = l.any p
  | [], n => rfl
  | x :: r, n => by
    unfold idxF
    cases h : p x with
    | true => simp [h]
    | false => simp only [h, Bool.false_eq_true, if_false, List.any_cons, Bool.false_or]; exact idxF_any p r (n + 1)
theorem idxF_drop {α : Type} (p : α → Bool) (l : List α) (j : Nat) (x : α) (h : l[j]? = some x) : idxF p (l.drop j) j = if p x then (j : Int) else idxF p (l.drop (j + 1)) (j + 1) := by
  obtain ⟨hlt, rfl⟩ := List.getElem?_eq_some_iff.1 h
  rw [List.drop_eq_getElem_cons hlt]
  rfl

/-- Bytes as an element, a keeper as an element. -/
def pvb (x : Bool × List Int) : PV := .list 1 x.1 (u8s x.2)
def kp (x : (Bool × List Int) × Int) : PV := .agg [.list 1 x.1.1 (u8s x.1.2), .val (.int .i64 x.2)]
abbrev fnv (g : FuncId) : SV := .pure (.val (.func (.func g) #[] #[]))

theorem idx49_ok (g : FuncId) (nl : Bool) (l : List (Bool × List Int)) (p : Bool × List Int → Bool) (hl : (l.length : Int) ≤ 2000000) (hp : ∀ x ∈ l, CallOk Try.prog g [bts x.1 x.2] [] fun r st' => st' = [] ∧ r = vB (p x)) :
    CallOk Try.prog 49 [.pure (.list 1 nl (l.map pvb)), fnv g] [] fun r st' => st' = [] ∧ r = vI .i64 (idxF p l 0) := by
  refine callOk_of true 0 Try.func49 rfl rfl (Nat.le_refl _) ?_
  conv => whnf
  repeat (first | (refine rest_vc ?_; conv => whnf) | (refine ⟨by decide, ?_⟩; conv => whnf))
  intro _
  conv => whnf
  repeat (first | (refine rest_vc ?_; conv => whnf) | (refine ⟨by decide, ?_⟩; conv => whnf))
  refine awp_loop (n := 19) (α := Nat) (fun j => j ≤ l.length ∧ idxF p (l.drop j) j = idxF p l 0) (fun j => [(0, .pure (.list 1 nl (l.map pvb))), (1, fnv g), (7, vI .i64 (l.map pvb).length), (8, vI .i64 j)]) (fun _ => []) (fun j => l.length - j) 0 (fun _ => 0)
    ⟨Nat.zero_le _, rfl⟩ rfl ⟨rfl, rfl, rfl, rfl, trivial⟩ rfl (fun _ _ => rfl) (fun _ => ⟨Nat.le_refl _, rfl, rfl⟩) ?_
  rintro j ⟨hj, hc⟩
  conv => whnf
  repeat (first | (refine rest_vc ?_; conv => whnf) | (refine ⟨by decide, ?_⟩; conv => whnf))
  split
  · rename_i h
    have h := of_decide_eq_true h
    rw [List.length_map] at h
    conv => whnf
    repeat (first | (refine rest_vc ?_; conv => whnf) | (refine ⟨by decide, ?_⟩; conv => whnf))
    refine ⟨by rw [List.length_map]; omega, fun q hq => ?_⟩
    obtain ⟨x, hx, rfl⟩ := map_get hq
    rw [Int.toNat_natCast] at hx
    conv => whnf
    repeat (first | (refine rest_vc ?_; conv => whnf) | (refine ⟨by decide, ?_⟩; conv => whnf))
    refine CallIn.to (hp x (List.mem_of_getElem? hx)) (k := ?_)
    conv => whnf
    repeat (first | (refine rest_vc ?_; conv => whnf) | (refine ⟨by decide, ?_⟩; conv => whnf))
    rw [idxF_drop p l j x hx] at hc
    split
    · rename_i h2
      conv => whnf
      repeat (first | (refine rest_vc ?_; conv => whnf) | (refine ⟨by decide, ?_⟩; conv => whnf))
      rw [if_pos h2] at hc
      exact ⟨rfl, congrArg (vI .i64) hc⟩
    · rename_i h2
      conv => whnf
      repeat (first | (refine rest_vc ?_; conv => whnf) | (refine ⟨by decide, ?_⟩; conv => whnf))
      rw [h2] at hc
      refine ⟨j + 1, fun _ => 0, ⟨by omega, hc⟩, by omega, rfl, ⟨rfl, rfl, rfl, congrArg (vI .i64) (by rw [w64 (by omega) (by omega)]; omega), trivial⟩, rfl, fun _ _ => rfl⟩
  · rename_i h
    have h := of_decide_eq_false h
    rw [List.length_map] at h
    conv => whnf
    repeat (first | (refine rest_vc ?_; conv => whnf) | (refine ⟨by decide, ?_⟩; conv => whnf))
    refine ⟨rfl, congrArg (vI .i64) ?_⟩
    rw [← hc, show j = l.length by omega, List.drop_length]
    rfl

theorem idx50_ok (g : FuncId) (nl : Bool) (l : List ((Bool × List Int) × Int)) (p : (Bool × List Int) × Int → Bool) (hl : (l.length : Int) ≤ 2000000) (hp : ∀ x ∈ l, CallOk Try.prog g [.pure (kp x)] [] fun r st' => st' = [] ∧ r = vB (p x)) :
    CallOk Try.prog 50 [.pure (.list 2 nl (l.map kp)), fnv g] [] fun r st' => st' = [] ∧ r = vI .i64 (idxF p l 0) := by
  refine callOk_of true 0 Try.func50 rfl rfl (Nat.le_refl _) ?_
  conv => whnf
  repeat (first | (refine rest_vc ?_; conv => whnf) | (refine ⟨by decide, ?_⟩; conv => whnf))
  intro _
  conv => whnf
  repeat (first | (refine rest_vc ?_; conv => whnf) | (refine ⟨by decide, ?_⟩; conv => whnf))
  refine awp_loop (n := 19) (α := Nat) (fun j => j ≤ l.length ∧ idxF p (l.drop j) j = idxF p l 0) (fun j => [(0, .pure (.list 2 nl (l.map kp))), (1, fnv g), (7, vI .i64 (l.map kp).length), (8, vI .i64 j)]) (fun _ => []) (fun j => l.length - j) 0 (fun _ => 0)
    ⟨Nat.zero_le _, rfl⟩ rfl ⟨rfl, rfl, rfl, rfl, trivial⟩ rfl (fun _ _ => rfl) (fun _ => ⟨Nat.le_refl _, rfl, rfl⟩) ?_
  rintro j ⟨hj, hc⟩
  conv => whnf
  repeat (first | (refine rest_vc ?_; conv => whnf) | (refine ⟨by decide, ?_⟩; conv => whnf))
  split
  · rename_i h
    have h := of_decide_eq_true h
    rw [List.length_map] at h
    conv => whnf
    repeat (first | (refine rest_vc ?_; conv => whnf) | (refine ⟨by decide, ?_⟩; conv => whnf))
    refine ⟨by rw [List.length_map]; omega, fun q hq => ?_⟩
    obtain ⟨x, hx, rfl⟩ := map_get hq
    rw [Int.toNat_natCast] at hx
    conv => whnf
    repeat (first | (refine rest_vc ?_; conv => whnf) | (refine ⟨by decide, ?_⟩; conv => whnf))
    refine CallIn.to (hp x (List.mem_of_getElem? hx)) (k := ?_)
    conv => whnf
    repeat (first | (refine rest_vc ?_; conv => whnf) | (refine ⟨by decide, ?_⟩; conv => whnf))
    rw [idxF_drop p l j x hx] at hc
    split
    · rename_i h2
      conv => whnf
      repeat (first | (refine rest_vc ?_; conv => whnf) | (refine ⟨by decide, ?_⟩; conv => whnf))
      rw [if_pos h2] at hc
      exact ⟨rfl, congrArg (vI .i64) hc⟩
    · rename_i h2
      conv => whnf
      repeat (first | (refine rest_vc ?_; conv => whnf) | (refine ⟨by decide, ?_⟩; conv => whnf))
      rw [h2] at hc
      refine ⟨j + 1, fun _ => 0, ⟨by omega, hc⟩, by omega, rfl, ⟨rfl, rfl, rfl, congrArg (vI .i64) (by rw [w64 (by omega) (by omega)]; omega), trivial⟩, rfl, fun _ _ => rfl⟩
  · rename_i h
    have h := of_decide_eq_false h
    rw [List.length_map] at h
    conv => whnf
    repeat (first | (refine rest_vc ?_; conv => whnf) | (refine ⟨by decide, ?_⟩; conv => whnf))
    refine ⟨rfl, congrArg (vI .i64) ?_⟩
    rw [← hc, show j = l.length by omega, List.drop_length]
    rfl

theorem con35_ok (g : FuncId) (nl : Bool) (l : List (Bool × List Int)) (p : Bool × List Int → Bool) (hl : (l.length : Int) ≤ 2000000) (hp : ∀ x ∈ l, CallOk Try.prog g [bts x.1 x.2] [] fun r st' => st' = [] ∧ r = vB (p x)) :
    CallOk Try.prog 35 [.pure (.list 1 nl (l.map pvb)), fnv g] [] fun r st' => st' = [] ∧ r = vB (l.any p) := by
  refine callOk_of true 0 Try.func35 rfl rfl (Nat.le_refl _) ?_
  conv => whnf
  repeat (first | (refine rest_vc ?_; conv => whnf) | (refine ⟨by decide, ?_⟩; conv => whnf))
  refine CallIn.to (idx49_ok g nl l p hl hp) (k := ?_)
  conv => whnf
  repeat (first | (refine rest_vc ?_; conv => whnf) | (refine ⟨by decide, ?_⟩; conv => whnf))
  split
  · rename_i h
    conv => whnf
    repeat (first | (refine rest_vc ?_; conv => whnf) | (refine ⟨by decide, ?_⟩; conv => whnf))
    exact ⟨rfl, congrArg vB (by rw [← idxF_any p l 0, h])⟩
  · rename_i h
    conv => whnf
    repeat (first | (refine rest_vc ?_; conv => whnf) | (refine ⟨by decide, ?_⟩; conv => whnf))
    exact ⟨rfl, congrArg vB (by rw [← idxF_any p l 0, h])⟩
theorem con37_ok (g : FuncId) (nl : Bool) (l : List ((Bool × List Int) × Int)) (p : (Bool × List Int) × Int → Bool) (hl : (l.length : Int) ≤ 2000000) (hp : ∀ x ∈ l, CallOk Try.prog g [.pure (kp x)] [] fun r st' => st' = [] ∧ r = vB (p x)) :
    CallOk Try.prog 37 [.pure (.list 2 nl (l.map kp)), fnv g] [] fun r st' => st' = [] ∧ r = vB (l.any p) := by
  refine callOk_of true 0 Try.func37 rfl rfl (Nat.le_refl _) ?_
  conv => whnf
  repeat (first | (refine rest_vc ?_; conv => whnf) | (refine ⟨by decide, ?_⟩; conv => whnf))
  refine CallIn.to (idx50_ok g nl l p hl hp) (k := ?_)
  conv => whnf
  repeat (first | (refine rest_vc ?_; conv => whnf) | (refine ⟨by decide, ?_⟩; conv => whnf))
  split
  · rename_i h
    conv => whnf
    repeat (first | (refine rest_vc ?_; conv => whnf) | (refine ⟨by decide, ?_⟩; conv => whnf))
    exact ⟨rfl, congrArg vB (by rw [← idxF_any p l 0, h])⟩
  · rename_i h
    conv => whnf
    repeat (first | (refine rest_vc ?_; conv => whnf) | (refine ⟨by decide, ?_⟩; conv => whnf))
    exact ⟨rfl, congrArg vB (by rw [← idxF_any p l 0, h])⟩

/-- 1 to 16 bytes; a keeper that is right. -/
def isAd (l : List Int) : Bool := decide (1 ≤ l.length ∧ l.length ≤ 16)
def badK (x : (Bool × List Int) × Int) : Bool := !isAd x.1.2 || decide (x.2 < 0) || decide (x.2 > 8 * (x.1.2.length : Int))

theorem asked1_ok (x : Bool × List Int) : CallOk Try.prog 36 [bts x.1 x.2] [] fun r st' => st' = [] ∧ r = vB (!isAd x.2) := by
  refine callOk_of true 0 Try.func36 rfl rfl (Nat.le_refl _) ?_
  conv => whnf
  repeat (first | (refine rest_vc ?_; conv => whnf) | (refine ⟨by decide, ?_⟩; conv => whnf))
  refine CallIn.to (isAddress_ok _ _) (k := ?_)
  conv => whnf
  repeat (first | (refine rest_vc ?_; conv => whnf) | (refine ⟨by decide, ?_⟩; conv => whnf))
  exact ⟨rfl, rfl⟩

theorem asked2_ok (x : (Bool × List Int) × Int) : CallOk Try.prog 38 [.pure (kp x)] [] fun r st' => st' = [] ∧ r = vB (badK x) := by
  obtain ⟨⟨nl, a⟩, n⟩ := x
  refine callOk_of true 0 Try.func38 rfl rfl (Nat.le_refl _) ?_
  conv => whnf
  repeat (first | (refine rest_vc ?_; conv => whnf) | (refine ⟨by decide, ?_⟩; conv => whnf))
  refine CallIn.tob (isAddress_ok _ _) (k := ?_)
  intro b hb
  cases b <;> (conv => whnf) <;> repeat (first | (refine rest_vc ?_; conv => whnf) | (refine ⟨by decide, ?_⟩; conv => whnf))
  · exact ⟨rfl, congrArg vB (by simp only [badK, isAd]; rw [hb]; simp)⟩
  · split <;> rename_i h <;> (conv => whnf) <;> repeat (first | (refine rest_vc ?_; conv => whnf) | (refine ⟨by decide, ?_⟩; conv => whnf))
    · exact ⟨rfl, congrArg vB (by simp only [badK, isAd]; rw [hb, h]; simp)⟩
    · have hb' := of_decide_eq_true hb
      simp only at hb'
      intro _
      conv => whnf
      repeat (first | (refine rest_vc ?_; conv => whnf) | (refine ⟨by decide, ?_⟩; conv => whnf))
      split <;> rename_i h2 <;> (conv => whnf) <;> repeat (first | (refine rest_vc ?_; conv => whnf) | (refine ⟨by decide, ?_⟩; conv => whnf))
      · simp only [u8s_len] at h2
        rw [w64 (by omega) (by omega)] at h2
        exact ⟨rfl, congrArg vB (by simp only [badK, isAd]; rw [hb, h, h2]; simp)⟩
      · simp only [u8s_len] at h2
        rw [w64 (by omega) (by omega)] at h2
        exact ⟨rfl, congrArg vB (by simp only [badK, isAd]; rw [hb, h, h2]; simp)⟩

abbrev K := (Bool × List Int) × Int
/-- Is the bit of a plain address kept? -/
def keptB (keep : List K) (a : List Int) (i : Nat) : Bool := keep.any fun x => decide (x.1.2.length = a.length) && decide (x.2 > i) && decide (((cmB x.1.2 a : Nat) : Int) ≥ (i : Int))
def turnB (k : List Int) (keep : List K) (a : List Int) (i : Nat) : Bool :=
  if keptB keep a i then false else decide ((tagI k ([IntKind.u8.wrap a.length, IntKind.u8.wrap i] ++ frontI a i)).getD 0 0 % 2 = 1)

theorem and1' (y : Int) : iAnd .u8 y 1 = y % 2 := and1 y

theorem tagI_len (k b : List Int) : (tagI k b).length = 8 := by simp [tagI, outI, putI]
theorem tagI_get (k b : List Int) : ∃ x r, tagI k b = x :: r := by
  have := tagI_len k b
  match h : tagI k b with
  | [] => rw [h] at this; cases this
  | x :: r => exact ⟨x, r, rfl⟩

theorem Tag_ok (nk nb : Bool) (k b : List Int) (hk : k.length = 16) (hb : (b.length : Int) ≤ 100000) : CallOk Try.prog 42 [bts nk k, bts nb b] [] fun r st' => st' = [] ∧ r = .tup [bts false (tagI k b), vI .i64 0] := by
  refine callOk_of true 0 Try.func42 rfl rfl (Nat.le_refl _) ?_
  conv => whnf
  repeat (first | (refine rest_vc ?_; conv => whnf) | (refine ⟨by decide, ?_⟩; conv => whnf))
  intro _
  conv => whnf
  repeat (first | (refine rest_vc ?_; conv => whnf) | (refine ⟨by decide, ?_⟩; conv => whnf))
  split <;> rename_i h <;> (conv => whnf) <;> repeat (first | (refine rest_vc ?_; conv => whnf) | (refine ⟨by decide, ?_⟩; conv => whnf))
  · rw [u8s_len, hk] at h
    cases h
  · intro _
    conv => whnf
    repeat (first | (refine rest_vc ?_; conv => whnf) | (refine ⟨by decide, ?_⟩; conv => whnf))
    split <;> rename_i h2 <;> (conv => whnf) <;> repeat (first | (refine rest_vc ?_; conv => whnf) | (refine ⟨by decide, ?_⟩; conv => whnf))
    · have := of_decide_eq_true h2
      rw [u8s_len] at this
      omega
    · refine CallIn.to (tag_ok nk nb k b hk hb) (k := ?_)
      conv => whnf
      repeat (first | (refine rest_vc ?_; conv => whnf) | (refine ⟨by decide, ?_⟩; conv => whnf))
      exact ⟨rfl, rfl⟩

theorem kept_step (keep : List K) (a : List Int) (i j : Nat) (x : K) (hx : keep[j]? = some x) : keptB (keep.drop j) a i = ((decide (x.1.2.length = a.length) && decide (x.2 > i) && decide (((cmB x.1.2 a : Nat) : Int) ≥ (i : Int))) || keptB (keep.drop (j + 1)) a i) := by
  obtain ⟨hlt, rfl⟩ := List.getElem?_eq_some_iff.1 hx
  rw [List.drop_eq_getElem_cons hlt]
  rfl

theorem turn1_ok (nk na nl : Bool) (k a : List Int) (keep : List K) (i : Nat) (hk : k.length = 16) (ha : a.length ≤ 16) (hi : i < 8 * a.length) (hl : (keep.length : Int) ≤ 2000000) (hna : na = false) :
    CallOk Try.prog 41 [bts na a, vI .i64 i, .ipt [.list 2 nl (keep.map kp)], .ipt [.list 1 nk (u8s k)]] [] fun r st' => st' = [] ∧ r = vB (turnB k keep a i) := by
  subst hna
  refine callOk_of true 0 Try.func41 rfl rfl (Nat.le_refl _) ?_
  conv => whnf
  repeat (first | (refine rest_vc ?_; conv => whnf) | (refine ⟨by decide, ?_⟩; conv => whnf))
  intro _
  conv => whnf
  repeat (first | (refine rest_vc ?_; conv => whnf) | (refine ⟨by decide, ?_⟩; conv => whnf))
  refine awp_loop (n := 58) (α := Nat) (fun j => j ≤ keep.length ∧ keptB (keep.drop j) a i = keptB keep a i) (fun j => [(0, bts false a), (1, vI .i64 i), (2, .ipt [.list 2 nl (keep.map kp)]), (3, .ipt [.list 1 nk (u8s k)]), (11, .pure (.list 2 nl (keep.map kp))), (12, vI .i64 (keep.map kp).length), (13, vI .i64 j)])
    (fun _ => []) (fun j => keep.length - j) 0 (fun _ => 0)
    ⟨Nat.zero_le _, rfl⟩ rfl ⟨rfl, rfl, rfl, rfl, rfl, rfl, rfl, trivial⟩ rfl (fun _ _ => rfl) (fun _ => ⟨Nat.le_refl _, rfl, rfl⟩) ?_
  rintro j ⟨hj, hc⟩
  conv => whnf
  repeat (first | (refine rest_vc ?_; conv => whnf) | (refine ⟨by decide, ?_⟩; conv => whnf))
  split <;> rename_i h <;> (conv => whnf) <;> repeat (first | (refine rest_vc ?_; conv => whnf) | (refine ⟨by decide, ?_⟩; conv => whnf))
  · have h := of_decide_eq_true h
    rw [List.length_map] at h
    refine ⟨by rw [List.length_map]; omega, fun q hq => ?_⟩
    obtain ⟨⟨⟨nx, ax⟩, n⟩, hx, rfl⟩ := map_get hq
    rw [Int.toNat_natCast] at hx
    rw [kept_step keep a i j _ hx] at hc
    conv => whnf
    repeat (first | (refine rest_vc ?_; conv => whnf) | (refine ⟨by decide, ?_⟩; conv => whnf))
    intro _
    conv => whnf
    repeat (first | (refine rest_vc ?_; conv => whnf) | (refine ⟨by decide, ?_⟩; conv => whnf))
    intro _
    conv => whnf
    repeat (first | (refine rest_vc ?_; conv => whnf) | (refine ⟨by decide, ?_⟩; conv => whnf))
    split <;> rename_i h1 <;> (conv => whnf) <;> repeat (first | (refine rest_vc ?_; conv => whnf) | (refine ⟨by decide, ?_⟩; conv => whnf))
    · have h1' : ax.length = a.length := by simp [u8s_len] at h1; omega
      split <;> rename_i h2 <;> (conv => whnf) <;> repeat (first | (refine rest_vc ?_; conv => whnf) | (refine ⟨by decide, ?_⟩; conv => whnf))
      · refine CallIn.to (common_ok nx false ax a h1' (by omega)) (k := ?_)
        conv => whnf
        repeat (first | (refine rest_vc ?_; conv => whnf) | (refine ⟨by decide, ?_⟩; conv => whnf))
        split <;> rename_i h3 <;> (conv => whnf) <;> repeat (first | (refine rest_vc ?_; conv => whnf) | (refine ⟨by decide, ?_⟩; conv => whnf))
        · refine ⟨rfl, congrArg vB ?_⟩
          have hk : keptB keep a i = true := by
            rw [← hc]
            simp only [h1', h2, h3, decide_true, Bool.true_and, Bool.true_or]
          unfold turnB
          rw [hk]
          rfl
        · refine ⟨j + 1, fun _ => 0, ⟨by omega, ?_⟩, by omega, rfl, ⟨rfl, rfl, rfl, rfl, rfl, rfl, congrArg (vI .i64) (by rw [w64 (by omega) (by omega)]; omega), trivial⟩, rfl, fun _ _ => rfl⟩
          rw [← hc]
          simp only [h3, Bool.and_false, Bool.false_or]
      · refine ⟨j + 1, fun _ => 0, ⟨by omega, ?_⟩, by omega, rfl, ⟨rfl, rfl, rfl, rfl, rfl, rfl, congrArg (vI .i64) (by rw [w64 (by omega) (by omega)]; omega), trivial⟩, rfl, fun _ _ => rfl⟩
        rw [← hc]
        simp only [h2, Bool.and_false, Bool.false_and, Bool.false_or]
    · refine ⟨j + 1, fun _ => 0, ⟨by omega, ?_⟩, by omega, rfl, ⟨rfl, rfl, rfl, rfl, rfl, rfl, congrArg (vI .i64) (by rw [w64 (by omega) (by omega)]; omega), trivial⟩, rfl, fun _ _ => rfl⟩
      rw [← hc]
      have h1' : ¬ ax.length = a.length := by simp [u8s_len] at h1; omega
      simp only [h1', decide_false, Bool.false_and, Bool.false_or]
  · have h := of_decide_eq_false h
    rw [List.length_map] at h
    have hke : keptB keep a i = false := by
      rw [← hc, show j = keep.length by omega, List.drop_length]
      rfl
    have hfl : (frontI a i).length = a.length := frG_len _ _ _
    have htl : ((([IntKind.u8.wrap a.length, IntKind.u8.wrap i] ++ frontI a i : List Int).length : Nat) : Int) ≤ 100000 := by simp [hfl]; omega
    have cF := front_ok a i (by omega) (by omega)
    have cT := Tag_ok nk false k ([IntKind.u8.wrap a.length, IntKind.u8.wrap i] ++ frontI a i) hk htl
    have cE : turnB k keep a i = decide ((tagI k ([IntKind.u8.wrap a.length, IntKind.u8.wrap i] ++ frontI a i)).getD 0 0 % 2 = 1) := by
      unfold turnB
      rw [hke, if_neg (by simp)]
    obtain ⟨t0, tr, ht⟩ := tagI_get k ([IntKind.u8.wrap a.length, IntKind.u8.wrap i] ++ frontI a i)
    rw [ht] at cT cE
    obtain ⟨F, hF⟩ : ∃ F, F = frontI a i := ⟨_, rfl⟩
    rw [← hF] at cF cT hfl htl
    have cT : CallOk Try.prog 42 [bts nk k, .pure (.list 1 false ([PV.val (.int .u8 (IntKind.u8.wrap ((u8s a).length : Int))), PV.val (.int .u8 (IntKind.u8.wrap (i : Int)))] ++ u8s F))] [] fun r st' => st' = [] ∧ r = .tup [bts false (t0 :: tr), vI .i64 0] :=
      cT.conv (by rw [u8s_len]; rfl) rfl
    refine hand_draw [] (fun n r => r = if n = 9 then bts false F else .tup [bts false (t0 :: tr), vI .i64 0]) rfl (by kernel_rfl) rfl ?_
    conv => whnf
    repeat (first | (refine rest_vc ?_; conv => whnf) | (refine ⟨by decide, ?_⟩; conv => whnf))
    intro _
    conv => whnf
    repeat (first | (refine rest_vc ?_; conv => whnf) | (refine ⟨by decide, ?_⟩; conv => whnf))
    refine CallIn.dto (cF) (k := ?_)
    conv => whnf
    repeat (first | (refine rest_vc ?_; conv => whnf) | (refine ⟨by decide, ?_⟩; conv => whnf))
    refine ⟨by (show (2 + (u8s F).length) * 1 ≤ 140737488355328; rw [u8s_len, hfl]; omega), ?_⟩
    conv => whnf
    repeat (first | (refine rest_vc ?_; conv => whnf) | (refine ⟨by decide, ?_⟩; conv => whnf))
    refine CallIn.dto (cT) (k := ?_)
    conv => whnf
    repeat (first | (refine rest_vc ?_; conv => whnf) | (refine ⟨by decide, ?_⟩; conv => whnf))
    refine ⟨⟨by decide, by rw [u8s_len, List.length_cons]; omega⟩, fun q hq => ?_⟩
    obtain ⟨rfl, hlt⟩ := u8s_get hq
    conv => whnf
    repeat (first | (refine rest_vc ?_; conv => whnf) | (refine ⟨by decide, ?_⟩; conv => whnf))
    split <;> rename_i h1 <;> (conv => whnf) <;> repeat (first | (refine rest_vc ?_; conv => whnf) | (refine ⟨by decide, ?_⟩; conv => whnf))
    · refine ⟨rfl, congrArg vB ?_⟩
      rw [cE]
      rw [and1'] at h1
      have h1 := beq_iff_eq.1 h1
      exact (decide_eq_true h1).symm
    · refine ⟨rfl, congrArg vB ?_⟩
      rw [cE]
      rw [and1'] at h1
      have h1 := beq_eq_false_iff_ne.1 h1
      exact (decide_eq_false h1).symm
end Go.Proofs.Ytlnmkolppgkglaa
