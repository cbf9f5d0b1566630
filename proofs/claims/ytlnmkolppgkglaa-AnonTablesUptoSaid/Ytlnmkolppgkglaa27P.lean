/- law27: slices of bytes compared; the sort's plain functions over them. -/
import Derived.Test.Ytlnmkolppgkglaa27J
import Derived.Test.YtlnmkolppgkglaaSyX
import Derived.Sort.AssemblyPlain
set_option linter.all false
set_option maxHeartbeats 4000000
set_option maxRecDepth 100000
namespace Go.Proofs.Ytlnmkolppgkglaa
open Go Go.RowKit Go.Sy Go.Proofs Go.Sort

abbrev BV := Bool × List Int
abbrev encB (x : BV) : PV := .list 1 x.1 (u8s x.2)
def encs (d : Array BV) : List PV := d.toList.map encB
abbrev cmpV : SV := .pure (.val (.func (.func 30) ⟨[]⟩ ⟨[]⟩))
def cmpB (x y : BV) : Int := cmpI x.2 y.2
def ltB (x y : BV) : Bool := decide (cmpB x y < 0)

theorem encs_len (d : Array BV) : (encs d).length = d.size := by simp [encs]
theorem encs_get {d : Array BV} {i : Nat} {p : PV} (h : (encs d)[i]? = some p) : p = encB d[i]! ∧ i < d.size := by
  unfold encs at h
  rw [List.getElem?_map, Option.map_eq_some_iff] at h
  obtain ⟨x, hx, rfl⟩ := h
  have hi : i < d.size := by have := (List.getElem?_eq_some_iff.1 hx).1; simpa using this
  refine ⟨?_, hi⟩
  have : d[i]! = x := by
    rw [getElem!_pos d i hi]
    have := (List.getElem?_eq_some_iff.1 hx).2
    simpa using this
  rw [this]
theorem encs_set (d : Array BV) (i : Nat) (x : BV) : (encs d).set i (encB x) = encs (d.setIfInBounds i x) := by
  simp [encs, List.map_set]
theorem encs_swp (d : Array BV) (i j : Nat) : ((encs d).set i (encB d[j]!)).set j (encB d[i]!) = encs (swp d i j) := by
  rw [encs_set, encs_set]; rfl
theorem encs_any {d : Array BV} {i j : Nat} {x : BV} {p : PV} (h : ((encs d).set i (encB x))[j]? = some p) : ∃ y, p = encB y := by
  rw [encs_set] at h
  exact ⟨_, (encs_get h).1⟩
theorem encs_any0 {d : Array BV} {j : Nat} {p : PV} (h : (encs d)[j]? = some p) : ∃ y, p = encB y := ⟨_, (encs_get h).1⟩
theorem swp_size (d : Array BV) (i j : Nat) : (swp d i j).size = d.size := by simp [swp]

theorem bcompare_ok (n1 n2 : Bool) (a b : List Int) : CallOk Try.prog 47 [bts n1 a, bts n2 b] [] fun r st' => st' = [] ∧ r = vI .i64 (cmpI a b) :=
  ext_compare Try.func47 rfl rfl (by kernel_rfl) (by kernel_rfl) n1 n2 a b

theorem compare_ok (n1 n2 : Bool) (a b : List Int) : CallOk Try.prog 30 [bts n1 a, bts n2 b] [] fun r st' => st' = [] ∧ r = vI .i64 (cmpI a b) := by
  refine callOk_of true 0 Try.func30 rfl rfl (Nat.le_refl _) ?_
  conv => whnf
  repeat (first | (refine rest_vc ?_; conv => whnf) | (refine ⟨by decide, ?_⟩; conv => whnf))
  refine CallIn.to (bcompare_ok n1 n2 a b) (k := ?_)
  conv => whnf
  repeat (first | (refine rest_vc ?_; conv => whnf) | (refine ⟨by decide, ?_⟩; conv => whnf))
  exact ⟨rfl, rfl⟩

theorem equal_ok (n1 n2 : Bool) (a b : List Int) : CallOk Try.prog 32 [bts n1 a, bts n2 b] [] fun r st' => st' = [] ∧ r = vB ((strOfNums a).toList == (strOfNums b).toList) := by
  refine callOk_of true 0 Try.func32 rfl rfl (Nat.le_refl _) ?_
  conv => whnf
  repeat (first | (refine rest_vc ?_; conv => whnf) | (refine ⟨by decide, ?_⟩; conv => whnf))
  refine ⟨⟨_, rfl⟩, fun l hl => ?_⟩
  obtain rfl : a = l := u8s_inj hl
  conv => whnf
  repeat (first | (refine rest_vc ?_; conv => whnf) | (refine ⟨by decide, ?_⟩; conv => whnf))
  refine ⟨⟨_, rfl⟩, fun l hl => ?_⟩
  obtain rfl : b = l := u8s_inj hl
  conv => whnf
  repeat (refine ⟨by decide, ?_⟩; conv => whnf)
  obtain ⟨c, hc⟩ : ∃ c, c = ((strOfNums a).toList == (strOfNums b).toList) := ⟨_, rfl⟩
  rw [← hc]
  cases c
  · conv => whnf
    repeat (first | (refine rest_vc ?_; conv => whnf) | (refine ⟨by decide, ?_⟩; conv => whnf))
    exact ⟨rfl, rfl⟩
  · conv => whnf
    repeat (first | (refine rest_vc ?_; conv => whnf) | (refine ⟨by decide, ?_⟩; conv => whnf))
    exact ⟨rfl, rfl⟩

abbrev vecB (nl : Bool) (d : Array BV) : Ob := .vec 0 22 1 nl (encs d)

theorem order2_ok (nl : Bool) (d : Array BV) (a b : Nat) (s : Int) (ha : a < d.size) (hb : b < d.size) :
    CallOk Try.prog 82 [.vref 0 0, vI .i64 a, vI .i64 b, .ptr 1 0, cmpV] [vecB nl d, .cells 3 [vI .i64 s]] fun r st' => (∃ s', st' = [vecB nl d, .cells 3 [vI .i64 s']]) ∧ (r = .tup [vI .i64 a, vI .i64 b] ∨ r = .tup [vI .i64 b, vI .i64 a]) := by
  refine callOk_of false 2 Try.func82 rfl rfl (Nat.le_refl _) ?_
  conv => whnf
  repeat (first | (refine rest_vc ?_; conv => whnf) | (refine ⟨by decide, ?_⟩; conv => whnf))
  refine hand_draw [] (fun _ r => r = vI .i64 (cmpB d[b]! d[a]!)) rfl (by kernel_rfl) rfl ?_
  conv => whnf
  repeat (first | (refine rest_vc ?_; conv => whnf) | (refine ⟨by decide, ?_⟩; conv => whnf))
  refine ⟨by simp only [encs_len, List.length_set] <;> omega, ?_⟩
  conv => whnf
  repeat (first | (refine rest_vc ?_; conv => whnf) | (refine ⟨by decide, ?_⟩; conv => whnf))
  refine ⟨by simp only [encs_len, List.length_set] <;> omega, fun p hp => ?_⟩
  simp only [Int.toNat_natCast] at hp
  obtain ⟨rfl, _⟩ := encs_get hp
  clear hp
  conv => whnf
  repeat (first | (refine rest_vc ?_; conv => whnf) | (refine ⟨by decide, ?_⟩; conv => whnf))
  refine ⟨by simp only [encs_len, List.length_set] <;> omega, ?_⟩
  conv => whnf
  repeat (first | (refine rest_vc ?_; conv => whnf) | (refine ⟨by decide, ?_⟩; conv => whnf))
  refine ⟨by simp only [encs_len, List.length_set] <;> omega, fun p hp => ?_⟩
  simp only [Int.toNat_natCast] at hp
  obtain ⟨rfl, _⟩ := encs_get hp
  clear hp
  conv => whnf
  repeat (first | (refine rest_vc ?_; conv => whnf) | (refine ⟨by decide, ?_⟩; conv => whnf))
  refine CallIn.dto (compare_ok _ _ _ _) (k := ?_)
  conv => whnf
  repeat (first | (refine rest_vc ?_; conv => whnf) | (refine ⟨by decide, ?_⟩; conv => whnf))
  obtain ⟨c, hc⟩ : ∃ c, c = decide (cmpI d[b]!.2 d[a]!.2 < 0) := ⟨_, rfl⟩
  rw [← hc]
  cases c
  · conv => whnf
    repeat (first | (refine rest_vc ?_; conv => whnf) | (refine ⟨by decide, ?_⟩; conv => whnf))
    exact ⟨⟨_, rfl⟩, .inl rfl⟩
  · conv => whnf
    repeat (first | (refine rest_vc ?_; conv => whnf) | (refine ⟨by decide, ?_⟩; conv => whnf))
    exact ⟨⟨_, rfl⟩, .inr rfl⟩

theorem median_ok (nl : Bool) (d : Array BV) (a b c : Nat) (s : Int) (ha : a < d.size) (hb : b < d.size) (hc : c < d.size) :
    CallOk Try.prog 80 [.vref 0 0, vI .i64 a, vI .i64 b, vI .i64 c, .ptr 1 0, cmpV] [vecB nl d, .cells 3 [vI .i64 s]] fun r st' => (∃ s', st' = [vecB nl d, .cells 3 [vI .i64 s']]) ∧ (r = vI .i64 a ∨ r = vI .i64 b ∨ r = vI .i64 c) := by
  have key : ∀ r : SV, (∃ x : Nat, r = vI .i64 x ∧ (x = a ∨ x = b ∨ x = c)) → (r = vI .i64 a ∨ r = vI .i64 b ∨ r = vI .i64 c) := by
    rintro r ⟨x, rfl, rfl | rfl | rfl⟩ <;> simp
  refine callOk_of false 2 Try.func80 rfl rfl (Nat.le_refl _) ?_
  have h2 : ∀ (x y : Nat) (s : Int), x < d.size → y < d.size → CallOk Try.prog 82 [.vref 0 0, vI .i64 x, vI .i64 y, .ptr 1 0, cmpV] [vecB nl d, .cells 3 [vI .i64 s]] fun r st' => ∃ (s' : Int) (x' y' : Nat), st' = [vecB nl d, .cells 3 [vI .i64 s']] ∧ r = .tup [vI .i64 x', vI .i64 y'] ∧ ((x' = x ∧ y' = y) ∨ (x' = y ∧ y' = x)) := by
    intro x y s hx hy
    refine (order2_ok nl d x y s hx hy).mono ?_
    rintro r st' ⟨⟨s', rfl⟩, rfl | rfl⟩
    · exact ⟨s', x, y, rfl, rfl, .inl ⟨rfl, rfl⟩⟩
    · exact ⟨s', y, x, rfl, rfl, .inr ⟨rfl, rfl⟩⟩
  conv => whnf
  repeat (first | (refine rest_vc ?_; conv => whnf) | (refine ⟨by decide, ?_⟩; conv => whnf))
  refine CallIn.o [0, 1] (h2 a b s ha hb) (k := ?_)
  rintro r st' ⟨s1, a1, b1, rfl, rfl, h1⟩
  conv => whnf
  repeat (first | (refine rest_vc ?_; conv => whnf) | (refine ⟨by decide, ?_⟩; conv => whnf))
  refine CallIn.o [0, 1] (h2 b1 c s1 (by omega) hc) (k := ?_)
  rintro r st' ⟨s2, b2, c2, rfl, rfl, h3⟩
  conv => whnf
  repeat (first | (refine rest_vc ?_; conv => whnf) | (refine ⟨by decide, ?_⟩; conv => whnf))
  refine CallIn.o [0, 1] (h2 a1 b2 s2 (by omega) (by omega)) (k := ?_)
  rintro r st' ⟨s3, a3, b3, rfl, rfl, h4⟩
  conv => whnf
  repeat (first | (refine rest_vc ?_; conv => whnf) | (refine ⟨by decide, ?_⟩; conv => whnf))
  exact ⟨⟨_, rfl⟩, key _ ⟨b3, rfl, by omega⟩⟩

theorem medianAdj_ok (nl : Bool) (d : Array BV) (a : Nat) (s : Int) (h0 : 0 < a) (ha : a + 1 < d.size) (hd : d.size < 2 ^ 62) :
    CallOk Try.prog 79 [.vref 0 0, vI .i64 a, .ptr 1 0, cmpV] [vecB nl d, .cells 3 [vI .i64 s]] fun r st' => ∃ (s' : Int) (x : Nat), st' = [vecB nl d, .cells 3 [vI .i64 s']] ∧ r = vI .i64 x ∧ a - 1 ≤ x ∧ x ≤ a + 1 := by
  refine callOk_of false 2 Try.func79 rfl rfl (Nat.le_refl _) ?_
  have e1 : IntKind.i64.wrap ((a : Int) - 1) = ((a - 1 : Nat) : Int) := by rw [w64 (by omega) (by omega)]; omega
  have e2 : IntKind.i64.wrap ((a : Int) + 1) = ((a + 1 : Nat) : Int) := by rw [w64 (by omega) (by omega)]; omega
  have hm := median_ok nl d (a - 1) a (a + 1) s (by omega) (by omega) (by omega)
  rw [← e1, ← e2] at hm
  conv => whnf
  repeat (first | (refine rest_vc ?_; conv => whnf) | (refine ⟨by decide, ?_⟩; conv => whnf))
  refine CallIn.o [0, 1] hm (k := ?_)
  rintro r st' ⟨⟨s', rfl⟩, rfl | rfl | rfl⟩
  · conv => whnf
    repeat (first | (refine rest_vc ?_; conv => whnf) | (refine ⟨by decide, ?_⟩; conv => whnf))
    exact ⟨s', a - 1, rfl, congrArg (vI .i64) e1, by omega, by omega⟩
  · conv => whnf
    repeat (first | (refine rest_vc ?_; conv => whnf) | (refine ⟨by decide, ?_⟩; conv => whnf))
    exact ⟨s', a, rfl, rfl, by omega, by omega⟩
  · conv => whnf
    repeat (first | (refine rest_vc ?_; conv => whnf) | (refine ⟨by decide, ?_⟩; conv => whnf))
    exact ⟨s', a + 1, rfl, congrArg (vI .i64) e2, by omega, by omega⟩

theorem reverse_ok (nl : Bool) (d : Array BV) (a b : Nat) (hab : a < b) (hb : b ≤ d.size) (hd : d.size < 2 ^ 62) :
    CallOk Try.prog 67 [.vref 0 0, vI .i64 a, vI .i64 b, cmpV] [vecB nl d] fun r st' => r = .tup [] ∧ st' = [vecB nl (reverseRange d a b)] := by
  refine callOk_of false 1 Try.func67 rfl rfl (Nat.le_refl _) ?_
  conv => whnf
  repeat (first | (refine rest_vc ?_; conv => whnf) | (refine ⟨by decide, ?_⟩; conv => whnf))
  refine awp_loop3 (n := 34) (α := Nat) (β := Nat) (γ := Array BV) (fun i j e => i ≤ j + 1 ∧ j < d.size ∧ e.size = d.size ∧ reverseLoop i j e = reverseRange d a b) (fun i j e => [(0, .vref 0 0), (8, vI .i64 i), (9, vI .i64 j)]) (fun i j e => [vecB nl e]) (fun i j _ => j - i) a (b - 1) d (fun _ => 0)
    ⟨by omega, by omega, rfl, rfl⟩ rfl ⟨rfl, rfl, congrArg (vI .i64) (by rw [w64 (by omega) (by omega)]; omega), trivial⟩ rfl (fun _ _ => rfl) (fun _ _ _ => ⟨Nat.le_refl _, rfl, rfl⟩) ?_
  rintro i j e ⟨h1, h2, h3, h4⟩
  conv => whnf
  repeat (first | (refine rest_vc ?_; conv => whnf) | (refine ⟨by decide, ?_⟩; conv => whnf))
  split <;> rename_i h <;> (conv => whnf) <;> repeat (first | (refine rest_vc ?_; conv => whnf) | (refine ⟨by decide, ?_⟩; conv => whnf))
  · have h := of_decide_eq_true h
    refine hand_draw [13, 15] (fun _ _ => True) rfl (by kernel_rfl) rfl ?_
    conv => whnf
    repeat (first | (refine rest_vc ?_; conv => whnf) | (refine ⟨by decide, ?_⟩; conv => whnf))
    refine ⟨by simp only [encs_len, List.length_set] <;> omega, ?_⟩
    conv => whnf
    repeat (first | (refine rest_vc ?_; conv => whnf) | (refine ⟨by decide, ?_⟩; conv => whnf))
    refine ⟨by simp only [encs_len, List.length_set] <;> omega, fun p hp => ?_⟩
    simp only [Int.toNat_natCast] at hp
    obtain ⟨rfl, _⟩ := encs_get hp
    clear hp
    conv => whnf
    repeat (first | (refine rest_vc ?_; conv => whnf) | (refine ⟨by decide, ?_⟩; conv => whnf))
    refine ⟨by simp only [encs_len, List.length_set] <;> omega, ?_⟩
    conv => whnf
    repeat (first | (refine rest_vc ?_; conv => whnf) | (refine ⟨by decide, ?_⟩; conv => whnf))
    refine ⟨by simp only [encs_len, List.length_set] <;> omega, fun p hp => ?_⟩
    simp only [Int.toNat_natCast] at hp
    obtain ⟨rfl, _⟩ := encs_get hp
    clear hp
    conv => whnf
    repeat (first | (refine rest_vc ?_; conv => whnf) | (refine ⟨by decide, ?_⟩; conv => whnf))
    refine ⟨by simp only [encs_len, List.length_set] <;> omega, ?_⟩
    conv => whnf
    repeat (first | (refine rest_vc ?_; conv => whnf) | (refine ⟨by decide, ?_⟩; conv => whnf))
    refine ⟨by simp only [encs_len, List.length_set] <;> omega, fun p hp => ?_⟩
    first | obtain ⟨_, rfl⟩ := encs_any0 hp | obtain ⟨_, rfl⟩ := encs_any hp
    clear hp
    conv => whnf
    repeat (first | (refine rest_vc ?_; conv => whnf) | (refine ⟨by decide, ?_⟩; conv => whnf))
    refine ⟨by simp only [encs_len, List.length_set] <;> omega, ?_⟩
    conv => whnf
    repeat (first | (refine rest_vc ?_; conv => whnf) | (refine ⟨by decide, ?_⟩; conv => whnf))
    refine ⟨by simp only [encs_len, List.length_set] <;> omega, fun p hp => ?_⟩
    first | obtain ⟨_, rfl⟩ := encs_any0 hp | obtain ⟨_, rfl⟩ := encs_any hp
    clear hp
    conv => whnf
    repeat (first | (refine rest_vc ?_; conv => whnf) | (refine ⟨by decide, ?_⟩; conv => whnf))
    refine ⟨i + 1, j - 1, swp e i j, fun _ => 0, ⟨by omega, by omega, by rw [swp_size]; exact h3, ?_⟩, by omega, rfl, ⟨rfl, congrArg (vI .i64) (by rw [w64 (by omega) (by omega)]; omega), congrArg (vI .i64) (by rw [w64 (by omega) (by omega)]; omega), trivial⟩, congrArg (fun l => [Ob.vec 0 22 1 nl l]) (encs_swp e i j), fun _ _ => rfl⟩
    rw [← h4]
    conv => rhs; unfold reverseLoop
    rw [if_pos (by omega)]
  · have h := of_decide_eq_false h
    refine ⟨rfl, congrArg (fun l => [vecB nl l]) ?_⟩
    rw [← h4]
    unfold reverseLoop
    rw [if_neg (by omega)]

theorem pred64 {j : Nat} (h : 0 < j) (h2 : j < 2 ^ 63) : IntKind.i64.wrap ((j : Int) - 1) = ((j - 1 : Nat) : Int) := by rw [w64 (by omega) (by omega)]; omega
theorem succ64 {j : Nat} (h2 : j < 2 ^ 63 - 1) : IntKind.i64.wrap ((j : Int) + 1) = ((j + 1 : Nat) : Int) := by rw [w64 (by omega) (by omega)]; omega
theorem lt_cmp {x y : BV} {c : Bool} (h : c = decide (cmpI x.2 y.2 < 0)) : ltB x y = c := by rw [h]; rfl

theorem insInner_go (lt : BV → BV → Bool) (a j : Nat) (d : Array BV) (h : a < j) : insInner lt a j d = if lt d[j]! d[j - 1]! then insInner lt a (j - 1) (swp d j (j - 1)) else d := by
  cases j with
  | zero => omega
  | succ j => conv => lhs; unfold insInner
              simp [h]
theorem insInner_stop (lt : BV → BV → Bool) (a j : Nat) (d : Array BV) (h : j ≤ a) : insInner lt a j d = d := by
  cases j with
  | zero => rfl
  | succ j => unfold insInner; rw [if_neg]; simp; omega

theorem insertion_ok (nl : Bool) (d : Array BV) (a b : Nat) (hab : a ≤ b) (hb : b ≤ d.size) (hd : d.size < 2 ^ 62) :
    CallOk Try.prog 63 [.vref 0 0, vI .i64 a, vI .i64 b, cmpV] [vecB nl d] fun r st' => r = .tup [] ∧ st' = [vecB nl (insertionSort ltB d a b)] := by
  refine callOk_of false 1 Try.func63 rfl rfl (Nat.le_refl _) ?_
  conv => whnf
  repeat (first | (refine rest_vc ?_; conv => whnf) | (refine ⟨by decide, ?_⟩; conv => whnf))
  refine awp_loop2 (n := 53) (α := Nat) (β := Array BV) (fun i e => a < i ∧ i ≤ b + 1 ∧ e.size = d.size ∧ insOuter ltB a b i e = insertionSort ltB d a b) (fun i e => [(0, .vref 0 0), (1, vI .i64 a), (2, vI .i64 b), (3, cmpV), (8, vI .i64 i)]) (fun i e => [vecB nl e]) (fun i _ => b + 1 - i) (a + 1) d (fun _ => 0)
    ⟨by omega, by omega, rfl, rfl⟩ rfl ⟨rfl, rfl, rfl, rfl, congrArg (vI .i64) (succ64 (by omega)), trivial⟩ rfl (fun _ _ => rfl) (fun _ _ => ⟨Nat.le_refl _, rfl, rfl⟩) ?_
  rintro i e ⟨h1, h2, h3, h4⟩
  conv => whnf
  repeat (first | (refine rest_vc ?_; conv => whnf) | (refine ⟨by decide, ?_⟩; conv => whnf))
  split <;> rename_i h <;> (conv => whnf) <;> repeat (first | (refine rest_vc ?_; conv => whnf) | (refine ⟨by decide, ?_⟩; conv => whnf))
  · have h := of_decide_eq_true h
    refine awp_loop2 (n := 53) (α := Nat) (β := Array BV) (fun j e' => j ≤ i ∧ e'.size = d.size ∧ insInner ltB a j e' = insInner ltB a i e) (fun j e' => [(0, .vref 0 0), (1, vI .i64 a), (2, vI .i64 b), (3, cmpV), (8, vI .i64 i), (9, vI .i64 j)]) (fun j e' => [vecB nl e']) (fun j _ => j) i e (fun _ => 0)
      ⟨by omega, h3, rfl⟩ rfl ⟨rfl, rfl, rfl, rfl, rfl, rfl, trivial⟩ rfl (fun _ _ => rfl) (fun _ _ => ⟨Nat.le_refl _, rfl, rfl⟩) ?_
    rintro j e' ⟨k1, k2, k3⟩
    conv => whnf
    repeat (first | (refine rest_vc ?_; conv => whnf) | (refine ⟨by decide, ?_⟩; conv => whnf))
    refine hand_draw [] (fun _ r => r = vI .i64 (cmpB e'[j]! e'[j - 1]!)) rfl (by kernel_rfl) rfl ?_
    conv => whnf
    repeat (first | (refine rest_vc ?_; conv => whnf) | (refine ⟨by decide, ?_⟩; conv => whnf))
    have fin : ∀ e'' : Array BV, insInner ltB a i e = e'' → insOuter ltB a b (i + 1) e'' = insertionSort ltB d a b := by
      rintro e'' rfl
      rw [← h4]
      conv => rhs; unfold insOuter
      rw [if_pos (by omega)]
    split <;> rename_i g <;> (conv => whnf) <;> repeat (first | (refine rest_vc ?_; conv => whnf) | (refine ⟨by decide, ?_⟩; conv => whnf))
    · have g := of_decide_eq_true g
      have ej := pred64 (j := j) (by omega) (by omega)
      refine ⟨by simp only [encs_len, List.length_set] <;> omega, ?_⟩
      conv => whnf
      repeat (first | (refine rest_vc ?_; conv => whnf) | (refine ⟨by decide, ?_⟩; conv => whnf))
      refine ⟨by simp only [encs_len, List.length_set] <;> omega, fun p hp => ?_⟩
      simp only [Int.toNat_natCast] at hp
      obtain ⟨rfl, _⟩ := encs_get hp
      clear hp
      conv => whnf
      repeat (first | (refine rest_vc ?_; conv => whnf) | (refine ⟨by decide, ?_⟩; conv => whnf))
      refine ⟨by simp only [encs_len, List.length_set, ej] <;> omega, ?_⟩
      conv => whnf
      repeat (first | (refine rest_vc ?_; conv => whnf) | (refine ⟨by decide, ?_⟩; conv => whnf))
      refine ⟨by simp only [encs_len, List.length_set, ej] <;> omega, fun p hp => ?_⟩
      simp only [ej, Int.toNat_natCast] at hp
      obtain ⟨rfl, _⟩ := encs_get hp
      clear hp
      conv => whnf
      repeat (first | (refine rest_vc ?_; conv => whnf) | (refine ⟨by decide, ?_⟩; conv => whnf))
      refine CallIn.dto (compare_ok _ _ _ _) (k := ?_)
      conv => whnf
      repeat (first | (refine rest_vc ?_; conv => whnf) | (refine ⟨by decide, ?_⟩; conv => whnf))
      obtain ⟨c, hc⟩ : ∃ c, c = decide (cmpI e'[j]!.2 e'[j - 1]!.2 < 0) := ⟨_, rfl⟩
      rw [← hc]
      have hlt := lt_cmp hc
      cases c
      · conv => whnf
        repeat (first | (refine rest_vc ?_; conv => whnf) | (refine ⟨by decide, ?_⟩; conv => whnf))
        exact ⟨i + 1, e', fun _ => 0, ⟨by omega, by omega, k2, fin e' (by rw [← k3, insInner_go _ _ _ _ (by omega), hlt]; rfl)⟩, by omega, rfl, ⟨rfl, rfl, rfl, rfl, congrArg (vI .i64) (succ64 (by omega)), trivial⟩, rfl, fun _ _ => rfl⟩
      · conv => whnf
        repeat (first | (refine rest_vc ?_; conv => whnf) | (refine ⟨by decide, ?_⟩; conv => whnf))
        refine hand_draw [15, 17] (fun _ _ => True) rfl (by kernel_rfl) rfl ?_
        conv => whnf
        repeat (first | (refine rest_vc ?_; conv => whnf) | (refine ⟨by decide, ?_⟩; conv => whnf))
        refine ⟨by simp only [encs_len, List.length_set, ej] <;> omega, ?_⟩
        conv => whnf
        repeat (first | (refine rest_vc ?_; conv => whnf) | (refine ⟨by decide, ?_⟩; conv => whnf))
        refine ⟨by simp only [encs_len, List.length_set, ej] <;> omega, fun p hp => ?_⟩
        simp only [ej, Int.toNat_natCast] at hp
        obtain ⟨rfl, _⟩ := encs_get hp
        clear hp
        conv => whnf
        repeat (first | (refine rest_vc ?_; conv => whnf) | (refine ⟨by decide, ?_⟩; conv => whnf))
        refine ⟨by simp only [encs_len, List.length_set, ej] <;> omega, ?_⟩
        conv => whnf
        repeat (first | (refine rest_vc ?_; conv => whnf) | (refine ⟨by decide, ?_⟩; conv => whnf))
        refine ⟨by simp only [encs_len, List.length_set, ej] <;> omega, fun p hp => ?_⟩
        simp only [ej, Int.toNat_natCast] at hp
        obtain ⟨rfl, _⟩ := encs_get hp
        clear hp
        conv => whnf
        repeat (first | (refine rest_vc ?_; conv => whnf) | (refine ⟨by decide, ?_⟩; conv => whnf))
        refine ⟨by simp only [encs_len, List.length_set, ej] <;> omega, ?_⟩
        conv => whnf
        repeat (first | (refine rest_vc ?_; conv => whnf) | (refine ⟨by decide, ?_⟩; conv => whnf))
        refine ⟨by simp only [encs_len, List.length_set, ej] <;> omega, fun p hp => ?_⟩
        first | obtain ⟨_, rfl⟩ := encs_any0 hp | obtain ⟨_, rfl⟩ := encs_any hp
        clear hp
        conv => whnf
        repeat (first | (refine rest_vc ?_; conv => whnf) | (refine ⟨by decide, ?_⟩; conv => whnf))
        refine ⟨by simp only [encs_len, List.length_set, ej] <;> omega, ?_⟩
        conv => whnf
        repeat (first | (refine rest_vc ?_; conv => whnf) | (refine ⟨by decide, ?_⟩; conv => whnf))
        refine ⟨by simp only [encs_len, List.length_set, ej] <;> omega, fun p hp => ?_⟩
        first | obtain ⟨_, rfl⟩ := encs_any0 hp | obtain ⟨_, rfl⟩ := encs_any hp
        clear hp
        conv => whnf
        repeat (first | (refine rest_vc ?_; conv => whnf) | (refine ⟨by decide, ?_⟩; conv => whnf))
        refine ⟨j - 1, swp e' j (j - 1), fun _ => 0, ⟨by omega, by rw [swp_size]; exact k2, ?_⟩, by omega, rfl, ⟨rfl, rfl, rfl, rfl, rfl, congrArg (vI .i64) ej, trivial⟩, congrArg (fun l => [Ob.vec 0 22 1 nl l]) ?_, fun _ _ => rfl⟩
        · rw [← k3, insInner_go _ _ j _ (by omega), hlt]
          rfl
        · show ((encs e').set _ _).set _ _ = _
          rw [ej]
          exact encs_swp e' j (j - 1)
    · have g := of_decide_eq_false g
      exact ⟨i + 1, e', fun _ => 0, ⟨by omega, by omega, k2, fin e' (by rw [← k3, insInner_stop _ _ _ _ (by omega)])⟩, by omega, rfl, ⟨rfl, rfl, rfl, rfl, congrArg (vI .i64) (succ64 (by omega)), trivial⟩, rfl, fun _ _ => rfl⟩
  · have h := of_decide_eq_false h
    refine ⟨rfl, congrArg (fun l => [vecB nl l]) ?_⟩
    rw [← h4]
    unfold insOuter
    rw [if_neg (by omega)]
end Go.Proofs.Ytlnmkolppgkglaa
