/- law27: the reference's table. -/
import Derived.Test.Ytlnmkolppgkglaa28D
set_option linter.all false
set_option maxHeartbeats 4000000
set_option maxRecDepth 100000
namespace Go.Proofs.Ytlnmkolppgkglaa
open Go Go.RowKit Go.Sy Go.Proofs Go.Sort

theorem prT_get {k : List Int} {keep : List K} {L : List (List Int)} {j : Nat} {q : PV} {y : List Int} (h : (L.map (prT k keep))[j]? = some q) (hy : L[j]? = some y) : q = prT k keep y := by
  obtain ⟨y', h1, rfl⟩ := map_get h
  rw [hy] at h1
  cases h1
  rfl

/-- Where an address stands while it is put into its place. -/
def ins (S : List (List Int)) (b : List Int) (j : Nat) : List (List Int) := S.take j ++ b :: S.drop j
theorem ins_len (S : List (List Int)) (b : List Int) {j : Nat} (h : j ≤ S.length) : (ins S b j).length = S.length + 1 := by simp [ins]; omega
theorem ins_end (S : List (List Int)) (b : List Int) : ins S b S.length = S ++ [b] := by simp [ins]
theorem ins_at (S : List (List Int)) (b : List Int) {j : Nat} (h : j ≤ S.length) : (ins S b j)[j]? = some b := by
  unfold ins
  rw [List.getElem?_append_right (by simp; omega)]
  simp [Nat.min_eq_left h]
theorem ins_pred (S : List (List Int)) (b : List Int) {j : Nat} (h0 : 0 < j) (h : j ≤ S.length) : (ins S b j)[j - 1]? = S[j - 1]? := by
  unfold ins
  rw [List.getElem?_append_left (by simp; omega), List.getElem?_take, if_pos (by omega)]
theorem drop_pred {S : List (List Int)} {a : List Int} {j : Nat} (h0 : 0 < j) (h : j ≤ S.length) (ha : S[j - 1]? = some a) : S.drop (j - 1) = a :: S.drop j := by
  rw [List.drop_eq_getElem_cons (by omega)]
  rw [List.getElem?_eq_getElem (by omega)] at ha
  rw [Option.some.inj ha, show j - 1 + 1 = j by omega]
theorem ins_swap {S : List (List Int)} {b a : List Int} {j : Nat} (h0 : 0 < j) (h : j ≤ S.length) (ha : S[j - 1]? = some a) : ((ins S b j).set j a).set (j - 1) b = ins S b (j - 1) := by
  have e1 : S.take j = S.take (j - 1) ++ [a] := by
    conv => lhs; rw [show j = j - 1 + 1 by omega]
    rw [List.take_add_one, ha]; rfl
  have e2 : S.drop (j - 1) = a :: S.drop j := by
    rw [List.drop_eq_getElem_cons (by omega)]
    rw [List.getElem?_eq_getElem (by omega)] at ha
    rw [Option.some.inj ha, show j - 1 + 1 = j by omega]
  unfold ins
  rw [e1, e2]
  have hl : (S.take (j - 1)).length = j - 1 := by simp; omega
  rw [List.append_assoc, List.set_append_right _ _ (by omega), hl, show j - (j - 1) = 1 by omega, List.set_append_right _ _ (by omega), hl, Nat.sub_self]
  rfl
theorem ins_srt {S : List (List Int)} {b : List Int} {j : Nat} (hS : SrtS S) (hj : j ≤ S.length) (hd : ∀ y ∈ S.drop j, bo b < bo y) (ht : 0 < j → ∀ a, S[j - 1]? = some a → bo a < bo b) : SrtS (ins S b j) := by
  unfold ins SrtS
  rw [List.pairwise_append]
  refine ⟨hS.sublist (List.take_sublist _ _), List.pairwise_cons.2 ⟨hd, hS.sublist (List.drop_sublist _ _)⟩, ?_⟩
  intro x hx y hy
  have hxa : bo x < bo b := by
    have h0 : 0 < j := by
      rcases Nat.eq_zero_or_pos j with e | e
      · subst e; simp at hx
      · exact e
    obtain ⟨a, ha⟩ : ∃ a, S[j - 1]? = some a := ⟨_, List.getElem?_eq_getElem (by omega)⟩
    have hab := ht h0 a ha
    have e1 : S.take j = S.take (j - 1) ++ [a] := by
      conv => lhs; rw [show j = j - 1 + 1 by omega]
      rw [List.take_add_one, ha]; rfl
    rw [e1] at hx
    rcases List.mem_append.1 hx with h | h
    · have hp : SrtS (S.take j) := hS.sublist (List.take_sublist _ _)
      rw [e1] at hp
      have := (List.pairwise_append.1 hp).2.2 x h a (by simp)
      exact List.lt_trans this hab
    · rw [List.mem_singleton.1 h]; exact hab
  rcases List.mem_cons.1 hy with h | h
  · rw [h]; exact hxa
  · exact List.lt_trans hxa (hd y h)
theorem ins_mem (S : List (List Int)) (b : List Int) (j : Nat) (x : List Int) : x ∈ ins S b j ↔ x ∈ S ++ [b] := by
  unfold ins
  have : S.take j ++ S.drop j = S := List.take_append_drop _ _
  rw [List.mem_append, List.mem_cons, List.mem_append, List.mem_singleton]
  constructor
  · rintro (h | h | h)
    · exact .inl (List.mem_of_mem_take h)
    · exact .inr h
    · exact .inl (List.mem_of_mem_drop h)
  · rintro (h | h)
    · rw [← this, List.mem_append] at h
      rcases h with h | h
      · exact .inl h
      · exact .inr (.inr h)
    · exact .inr (.inl h)

def eqS (s b : List Int) : Bool := (strOfNums s).toList == (strOfNums b).toList
theorem eqS_iff (s b : List Int) : eqS s b = true ↔ bo s = bo b := by
  unfold eqS
  rw [Lib.strOfNums_toList, Lib.strOfNums_toList]
  exact beq_iff_eq
theorem any_take {α : Type} (f : α → Bool) {l : List α} {j : Nat} {x : α} (h : l[j]? = some x) : (l.take (j + 1)).any f = ((l.take j).any f || f x) := by
  rw [List.take_add_one, h]; simp

theorem bytesLess_lt : ∀ (x y : List UInt8), Op.bytesLess x y = decide (x < y)
  | [], [] => by simp [Op.bytesLess]
  | _ :: _, [] => by simp [Op.bytesLess]
  | [], _ :: _ => by simp [Op.bytesLess]
  | a :: x, b :: y => by
    rw [Op.bytesLess, bytesLess_lt x y]
    simp only [List.cons_lt_cons_iff]
    by_cases h1 : a < b <;> by_cases h2 : a = b <;> by_cases h3 : x < y <;> simp [h1, h2, h3]
theorem less_iff (a b : List Int) : Op.bytesLess (strOfNums a).toList (strOfNums b).toList = true ↔ bo a < bo b := by
  rw [bytesLess_lt, Lib.strOfNums_toList, Lib.strOfNums_toList]
  exact decide_eq_true_iff

theorem rTable_ok (nk nl na : Bool) (k : List Int) (keep : List K) (l : List BV) (hk : (k.length : Int) ≤ 2000000) (hl : (keep.length : Int) ≤ 2000000) (hl2 : (l.length : Int) ≤ 2000000) (hb : ∀ x ∈ l, Bts x.2) (hkb : KBts keep) :
    CallOk Try.prog 16 [bts nk k, .pure (.list 2 nl (keep.map kp)), .pure (.list 1 na (l.map pvb))] [] fun r st' => st' = [] ∧ TabR k keep l r := by
  refine callOk_of true 0 Try.func16 rfl rfl (Nat.le_refl _) ?_
  conv => whnf
  repeat (first | (refine rest_vc ?_; conv => whnf) | (refine ⟨by decide, ?_⟩; conv => whnf))
  refine CallIn.to (rasked_ok nk nl na k keep l hk hl hl2) (k := ?_)
  conv => whnf
  repeat (first | (refine rest_vc ?_; conv => whnf) | (refine ⟨by decide, ?_⟩; conv => whnf))
  split <;> rename_i h <;> (conv => whnf) <;> repeat (first | (refine rest_vc ?_; conv => whnf) | (refine ⟨by decide, ?_⟩; conv => whnf))
  · have h : askedI k keep l ≠ 0 := by simpa using h
    exact ⟨rfl, [], rfl, fun _ => rfl, fun e => absurd e h⟩
  have h : askedI k keep l = 0 := by simpa using h
  obtain ⟨k16, had, hkl, _⟩ := asked0 h
  refine hand_ghost 9 43 2 rfl ?_
  refine awp_loop2 (n := 105) (α := Nat) (β := List (List Int)) (fun i S => i ≤ l.length ∧ S.length ≤ i ∧ SrtS S ∧ (∀ b, b ∈ S ↔ b ∈ (l.take i).map (·.2)))
    (fun i S => [(0, bts nk k), (1, .pure (.list 2 nl (keep.map kp))), (2, .pure (.list 1 na (l.map pvb))), (9, .vref 0 0), (10, vI .i64 i)]) (fun i S => [.vec 0 43 2 S.isEmpty (S.map (prT k keep))]) (fun i _ => l.length - i) 0 [] (fun _ => 0)
    ⟨Nat.zero_le _, Nat.le_refl _, List.Pairwise.nil, fun b => Iff.rfl⟩ rfl ⟨rfl, rfl, rfl, rfl, rfl, trivial⟩ rfl (fun _ _ => rfl) (fun _ _ => ⟨Nat.zero_le _, rfl, rfl⟩) ?_
  rintro i S ⟨hi, hSi, hS, hm⟩
  conv => whnf
  repeat (first | (refine rest_vc ?_; conv => whnf) | (refine ⟨by decide, ?_⟩; conv => whnf))
  intro _
  conv => whnf
  repeat (first | (refine rest_vc ?_; conv => whnf) | (refine ⟨by decide, ?_⟩; conv => whnf))
  split <;> rename_i g <;> (conv => whnf) <;> repeat (first | (refine rest_vc ?_; conv => whnf) | (refine ⟨by decide, ?_⟩; conv => whnf))
  · have g := of_decide_eq_true g
    rw [List.length_map] at g
    obtain ⟨x, hx⟩ : ∃ x, l[i]? = some x := ⟨_, List.getElem?_eq_getElem (by omega)⟩
    have hxm := List.mem_of_getElem? hx
    have hxl := had x hxm
    have hxb := hb x hxm
    obtain ⟨nx, b⟩ := x
    simp only at hxl hxb
    have look : ∀ (q : PV), (l.map pvb)[((i : Int)).toNat]? = some q → q = pvb (nx, b) := fun q hq => by
      obtain ⟨p, hp, rfl⟩ := map_get hq
      rw [Int.toNat_natCast, hx] at hp
      cases hp
      rfl
    have hSb : ∀ s ∈ S, Bts s := fun s hs => by
      obtain ⟨y, hy, rfl⟩ := List.mem_map.1 ((hm s).1 hs)
      exact hb y (List.mem_of_mem_take hy)
    have etk : (l.take (i + 1)).map (·.2) = (l.take i).map (·.2) ++ [b] := by rw [List.take_add_one, hx]; simp
    refine awp_loop2 (n := 105) (α := Nat) (β := Bool) (fun j t => j ≤ S.length ∧ t = (S.take j).any fun s => eqS s b)
      (fun j t => [(0, bts nk k), (1, .pure (.list 2 nl (keep.map kp))), (2, .pure (.list 1 na (l.map pvb))), (9, .vref 0 0), (10, vI .i64 i), (11, vB t), (12, vI .i64 j)]) (fun _ _ => [.vec 0 43 2 S.isEmpty (S.map (prT k keep))]) (fun j _ => S.length - j) 0 false (fun _ => 0)
      ⟨Nat.zero_le _, rfl⟩ rfl ⟨rfl, rfl, rfl, rfl, rfl, rfl, rfl, trivial⟩ rfl (fun _ _ => rfl) (fun _ _ => ⟨Nat.zero_le _, rfl, rfl⟩) ?_
    rintro j t ⟨hj, ht⟩
    conv => whnf
    repeat (first | (refine rest_vc ?_; conv => whnf) | (refine ⟨by decide, ?_⟩; conv => whnf))
    intro _
    conv => whnf
    repeat (first | (refine rest_vc ?_; conv => whnf) | (refine ⟨by decide, ?_⟩; conv => whnf))
    split <;> rename_i u <;> (conv => whnf) <;> repeat (first | (refine rest_vc ?_; conv => whnf) | (refine ⟨by decide, ?_⟩; conv => whnf))
    · have u := of_decide_eq_true u
      rw [List.length_map] at u
      obtain ⟨s, hs⟩ : ∃ s, S[j]? = some s := ⟨_, List.getElem?_eq_getElem (by omega)⟩
      have hat := any_take (fun s => eqS s b) hs
      rw [← ht] at hat
      refine hand_draw [] (fun _ _ => True) rfl (by kernel_rfl) rfl ?_
      cases t
      · conv => whnf
        repeat (first | (refine rest_vc ?_; conv => whnf) | (refine ⟨by decide, ?_⟩; conv => whnf))
        refine ⟨by rw [List.length_map]; omega, ?_⟩
        conv => whnf
        repeat (first | (refine rest_vc ?_; conv => whnf) | (refine ⟨by decide, ?_⟩; conv => whnf))
        refine ⟨by rw [List.length_map]; omega, fun q hq => ?_⟩
        rw [Int.toNat_natCast] at hq
        obtain rfl := prT_get hq hs
        conv => whnf
        repeat (first | (refine rest_vc ?_; conv => whnf) | (refine ⟨by decide, ?_⟩; conv => whnf))
        refine ⟨⟨_, rfl⟩, fun s' hs' => ?_⟩
        obtain rfl : s = s' := u8s_inj hs'
        conv => whnf
        repeat (first | (refine rest_vc ?_; conv => whnf) | (refine ⟨by decide, ?_⟩; conv => whnf))
        refine ⟨by rw [List.length_map]; omega, fun q hq => ?_⟩
        obtain rfl := look q hq
        conv => whnf
        repeat (first | (refine rest_vc ?_; conv => whnf) | (refine ⟨by decide, ?_⟩; conv => whnf))
        refine ⟨⟨_, rfl⟩, fun b' hb' => ?_⟩
        obtain rfl : b = b' := u8s_inj hb'
        conv => whnf
        repeat (refine ⟨by decide, ?_⟩; conv => whnf)
        obtain ⟨c, hc⟩ : ∃ c, c = eqS s b := ⟨_, rfl⟩
        rw [← hc] at hat
        have hc' : ((strOfNums s).toList == (strOfNums b).toList) = c := hc.symm
        rw [hc']
        cases c
        · conv => whnf
          repeat (first | (refine rest_vc ?_; conv => whnf) | (refine ⟨by decide, ?_⟩; conv => whnf))
          exact ⟨j + 1, false, fun _ => 0, ⟨by omega, hat.symm⟩, by omega, rfl, ⟨rfl, rfl, rfl, rfl, rfl, rfl, congrArg (vI .i64) (succ64 (by omega)), trivial⟩, rfl, fun _ _ => rfl⟩
        · conv => whnf
          repeat (first | (refine rest_vc ?_; conv => whnf) | (refine ⟨by decide, ?_⟩; conv => whnf))
          exact ⟨j + 1, true, fun _ => 0, ⟨by omega, hat.symm⟩, by omega, rfl, ⟨rfl, rfl, rfl, rfl, rfl, rfl, congrArg (vI .i64) (succ64 (by omega)), trivial⟩, rfl, fun _ _ => rfl⟩
      · conv => whnf
        repeat (first | (refine rest_vc ?_; conv => whnf) | (refine ⟨by decide, ?_⟩; conv => whnf))
        exact ⟨j + 1, true, fun _ => 0, ⟨by omega, by rw [hat]; rfl⟩, by omega, rfl, ⟨rfl, rfl, rfl, rfl, rfl, rfl, congrArg (vI .i64) (succ64 (by omega)), trivial⟩, rfl, fun _ _ => rfl⟩
    · have u := of_decide_eq_false u
      rw [List.length_map] at u
      have : j = S.length := by omega
      subst this
      rw [List.take_length] at ht
      cases t
      · -- it is new
        have hnew : ∀ s ∈ S, bo s ≠ bo b := fun s hs e => by
          have := List.any_eq_false.1 ht.symm s hs
          exact this ((eqS_iff s b).2 e)
        have cm : CallOk Try.prog 24 [bts nk k, .pure (.list 2 nl (keep.map kp)), bts nx b, vB false] [] fun r st' => st' = [] ∧ r = bts false (mappedI k keep b) := by
          have := rmapped_ok nk nl nx false k b keep k16 hxl.2 hxl.1 hl hkb hxb
          rw [rmG_forth] at this
          exact this
        have hne : (u8s b).isEmpty = false := by cases b with
          | nil => simp at hxl
          | cons _ _ => rfl
        conv => whnf
        repeat (first | (refine rest_vc ?_; conv => whnf) | (refine ⟨by decide, ?_⟩; conv => whnf))
        refine hand_draw [15] (fun _ r => r = bts false (mappedI k keep b)) rfl (by kernel_rfl) rfl ?_
        conv => whnf
        repeat (first | (refine rest_vc ?_; conv => whnf) | (refine ⟨by decide, ?_⟩; conv => whnf))
        refine ⟨by rw [List.length_map]; omega, fun q hq => ?_⟩
        obtain rfl := look q hq
        conv => whnf
        repeat (first | (refine rest_vc ?_; conv => whnf) | (refine ⟨by decide, ?_⟩; conv => whnf))
        refine ⟨by show (u8s b).length * 1 ≤ _; rw [u8s_len]; omega, ?_⟩
        conv => whnf
        repeat (first | (refine rest_vc ?_; conv => whnf) | (refine ⟨by decide, ?_⟩; conv => whnf))
        refine ⟨by rw [List.length_map]; omega, fun q hq => ?_⟩
        obtain rfl := look q hq
        conv => whnf
        repeat (first | (refine rest_vc ?_; conv => whnf) | (refine ⟨by decide, ?_⟩; conv => whnf))
        refine CallIn.dto (cm) (k := ?_)
        conv => whnf
        repeat (first | (refine rest_vc ?_; conv => whnf) | (refine ⟨by decide, ?_⟩; conv => whnf))
        refine ⟨by simp only [List.length_map, List.length_cons, List.length_nil]; show _ * 48 ≤ _; omega, ?_⟩
        conv => whnf
        repeat (first | (refine rest_vc ?_; conv => whnf) | (refine ⟨by decide, ?_⟩; conv => whnf))
        intro _
        conv => whnf
        repeat (first | (refine rest_vc ?_; conv => whnf) | (refine ⟨by decide, ?_⟩; conv => whnf))
        refine awp_loop (n := 105) (α := Nat) (fun j => j ≤ S.length ∧ ∀ y ∈ S.drop j, bo b < bo y)
          (fun j => [(0, bts nk k), (1, .pure (.list 2 nl (keep.map kp))), (2, .pure (.list 1 na (l.map pvb))), (9, .vref 0 0), (10, vI .i64 i), (13, vI .i64 j)]) (fun j => [.vec 0 43 2 false ((ins S b j).map (prT k keep))]) (fun j => j) S.length (fun _ => 1)
          ⟨Nat.le_refl _, fun y hy => by simp at hy⟩ rfl ⟨rfl, rfl, rfl, rfl, rfl, congrArg (vI .i64) ?_, trivial⟩ ?_ (fun o ho => absurd (show o < 0 from ho) (Nat.not_lt_zero _)) (fun _ => ⟨Nat.zero_le _, rfl, rfl⟩) ?_
        · simp only [List.length_append, List.length_map, List.length_cons, List.length_nil]
          rw [w64 (by omega) (by omega)]
          omega
        · show [Ob.vec _ _ _ (S.isEmpty && false) (S.map (prT k keep) ++ [PV.agg [.list 1 (u8s b).isEmpty (u8s b), _]])] = [Ob.vec _ _ _ false ((ins S b S.length).map (prT k keep))]
          rw [ins_end, hne, Bool.and_false, List.map_append]
          rfl
        rintro j ⟨hj, hd⟩
        have hil := ins_len S b hj
        conv => whnf
        repeat (first | (refine rest_vc ?_; conv => whnf) | (refine ⟨by decide, ?_⟩; conv => whnf))
        refine hand_draw [] (fun _ _ => True) rfl (by kernel_rfl) rfl ?_
        conv => whnf
        repeat (first | (refine rest_vc ?_; conv => whnf) | (refine ⟨by decide, ?_⟩; conv => whnf))
        have fin : (0 < j → ∀ a, S[j - 1]? = some a → bo a < bo b) → (SrtS (ins S b j) ∧ ∀ y, y ∈ ins S b j ↔ y ∈ (l.take (i + 1)).map (·.2)) := fun ht => by
          refine ⟨ins_srt hS hj hd ht, fun y => ?_⟩
          rw [ins_mem, etk, List.mem_append, List.mem_append, hm]
        have hie : (ins S b j).isEmpty = false := by unfold ins; cases S.take j <;> rfl
        split <;> rename_i w <;> (conv => whnf) <;> repeat (first | (refine rest_vc ?_; conv => whnf) | (refine ⟨by decide, ?_⟩; conv => whnf))
        · have w := of_decide_eq_true w
          have ej := pred64 (j := j) (by omega) (by omega)
          obtain ⟨a, ha⟩ : ∃ a, S[j - 1]? = some a := ⟨_, List.getElem?_eq_getElem (by omega)⟩
          have hab : bo a ≠ bo b := hnew a (List.mem_of_getElem? ha)
          have g1 := ins_at S b hj
          have g2 := (ins_pred S b (j := j) (by omega) hj).trans ha
          refine ⟨by rw [List.length_map]; omega, ?_⟩
          conv => whnf
          repeat (first | (refine rest_vc ?_; conv => whnf) | (refine ⟨by decide, ?_⟩; conv => whnf))
          refine ⟨by rw [List.length_map]; omega, fun q hq => ?_⟩
          rw [Int.toNat_natCast] at hq
          obtain rfl := prT_get hq g1
          conv => whnf
          repeat (first | (refine rest_vc ?_; conv => whnf) | (refine ⟨by decide, ?_⟩; conv => whnf))
          refine ⟨⟨_, rfl⟩, fun b' hb' => ?_⟩
          obtain rfl : b = b' := u8s_inj hb'
          conv => whnf
          repeat (first | (refine rest_vc ?_; conv => whnf) | (refine ⟨by decide, ?_⟩; conv => whnf))
          refine ⟨by rw [List.length_map]; omega, ?_⟩
          conv => whnf
          repeat (first | (refine rest_vc ?_; conv => whnf) | (refine ⟨by decide, ?_⟩; conv => whnf))
          refine ⟨by rw [List.length_map]; omega, fun q hq => ?_⟩
          rw [ej, Int.toNat_natCast] at hq
          obtain rfl := prT_get hq g2
          conv => whnf
          repeat (first | (refine rest_vc ?_; conv => whnf) | (refine ⟨by decide, ?_⟩; conv => whnf))
          refine ⟨⟨_, rfl⟩, fun a' ha' => ?_⟩
          obtain rfl : a = a' := u8s_inj ha'
          conv => whnf
          repeat (refine ⟨by decide, ?_⟩; conv => whnf)
          obtain ⟨c, hc⟩ : ∃ c, c = Op.bytesLess (strOfNums b).toList (strOfNums a).toList := ⟨_, rfl⟩
          rw [← hc]
          cases c
          · have hlt : bo a < bo b := by
              have : ¬ bo b < bo a := fun h => by rw [(less_iff b a).2 h] at hc; cases hc
              rcases List.le_iff_lt_or_eq.1 (List.not_lt.1 this) with h | h
              · exact h
              · exact absurd h hab
            obtain ⟨f1, f2⟩ := fin fun _ a' ha' => by rw [ha] at ha'; cases ha'; exact hlt
            conv => whnf
            repeat (first | (refine rest_vc ?_; conv => whnf) | (refine ⟨by decide, ?_⟩; conv => whnf))
            refine ⟨i + 1, ins S b j, fun _ => 0, ⟨by omega, by omega, f1, f2⟩, by omega, rfl, ⟨rfl, rfl, rfl, rfl, congrArg (vI .i64) (succ64 (by omega)), trivial⟩, ?_, fun _ _ => rfl⟩
            rw [hie]
            rfl
          · have hlt : bo b < bo a := (less_iff b a).1 hc.symm
            conv => whnf
            repeat (first | (refine rest_vc ?_; conv => whnf) | (refine ⟨by decide, ?_⟩; conv => whnf))
            refine hand_draw [15, 17] (fun _ _ => True) rfl (by kernel_rfl) rfl ?_
            conv => whnf
            repeat (first | (refine rest_vc ?_; conv => whnf) | (refine ⟨by decide, ?_⟩; conv => whnf))
            refine ⟨by rw [List.length_map]; omega, ?_⟩
            conv => whnf
            repeat (first | (refine rest_vc ?_; conv => whnf) | (refine ⟨by decide, ?_⟩; conv => whnf))
            refine ⟨by rw [List.length_map]; omega, fun q hq => ?_⟩
            rw [ej, Int.toNat_natCast] at hq
            obtain rfl := prT_get hq g2
            conv => whnf
            repeat (first | (refine rest_vc ?_; conv => whnf) | (refine ⟨by decide, ?_⟩; conv => whnf))
            refine ⟨by rw [List.length_map]; omega, ?_⟩
            conv => whnf
            repeat (first | (refine rest_vc ?_; conv => whnf) | (refine ⟨by decide, ?_⟩; conv => whnf))
            refine ⟨by rw [List.length_map]; omega, fun q hq => ?_⟩
            rw [Int.toNat_natCast] at hq
            obtain rfl := prT_get hq g1
            conv => whnf
            repeat (first | (refine rest_vc ?_; conv => whnf) | (refine ⟨by decide, ?_⟩; conv => whnf))
            refine ⟨by rw [List.length_map]; omega, ?_⟩
            conv => whnf
            repeat (first | (refine rest_vc ?_; conv => whnf) | (refine ⟨by decide, ?_⟩; conv => whnf))
            refine ⟨by rw [List.length_map]; omega, fun q hq => ?_⟩
            rw [Int.toNat_natCast] at hq
            obtain rfl := prT_get hq g1
            conv => whnf
            repeat (first | (refine rest_vc ?_; conv => whnf) | (refine ⟨by decide, ?_⟩; conv => whnf))
            refine ⟨by rw [List.length_set, List.length_map]; omega, ?_⟩
            conv => whnf
            repeat (first | (refine rest_vc ?_; conv => whnf) | (refine ⟨by decide, ?_⟩; conv => whnf))
            refine ⟨by rw [List.length_set, List.length_map, ej]; omega, fun q hq => ?_⟩
            rw [ej, Int.toNat_natCast, Int.toNat_natCast, List.getElem?_set_ne (by omega)] at hq
            obtain rfl := prT_get hq g2
            conv => whnf
            repeat (first | (refine rest_vc ?_; conv => whnf) | (refine ⟨by decide, ?_⟩; conv => whnf))
            refine ⟨j - 1, fun _ => 0, ⟨by omega, fun y hy => ?_⟩, by omega, rfl, ⟨rfl, rfl, rfl, rfl, rfl, congrArg (vI .i64) ej, trivial⟩, ?_, fun _ _ => rfl⟩
            · rw [drop_pred (by omega) hj ha] at hy
              rcases List.mem_cons.1 hy with e | e
              · rw [e]; exact hlt
              · exact hd y e
            · show [Ob.vec 0 43 2 false ((((ins S b j).map (prT k keep)).set ((j : Int)).toNat (prT k keep a)).set (IntKind.i64.wrap ((j : Int) - 1)).toNat (prT k keep b))] = _
              rw [ej, Int.toNat_natCast, Int.toNat_natCast, ← List.map_set, ← List.map_set, ins_swap (by omega) hj ha]
              rfl
        · have w := of_decide_eq_false w
          have hj0 : j = 0 := by omega
          obtain ⟨f1, f2⟩ := fin fun h => by omega
          refine ⟨i + 1, ins S b j, fun _ => 0, ⟨by omega, by omega, f1, f2⟩, by omega, rfl, ⟨rfl, rfl, rfl, rfl, congrArg (vI .i64) (succ64 (by omega)), trivial⟩, ?_, fun _ _ => rfl⟩
          rw [hie]
          rfl
      · -- it is there
        have hold : b ∈ S := by
          obtain ⟨s, hs, he⟩ := List.any_eq_true.1 ht.symm
          have : s = b := bo_inj (hSb s hs) hxb ((eqS_iff s b).1 he)
          rw [← this]; exact hs
        conv => whnf
        repeat (first | (refine rest_vc ?_; conv => whnf) | (refine ⟨by decide, ?_⟩; conv => whnf))
        refine ⟨i + 1, S, fun _ => 0, ⟨by omega, by omega, hS, fun y => ?_⟩, by omega, rfl, ⟨rfl, rfl, rfl, rfl, congrArg (vI .i64) (succ64 (by omega)), trivial⟩, rfl, fun _ _ => rfl⟩
        rw [etk, List.mem_append, List.mem_singleton, ← hm]
        constructor
        · exact .inl
        · rintro (h | rfl)
          · exact h
          · exact hold
  · have g := of_decide_eq_false g
    rw [List.length_map] at g
    have : i = l.length := by omega
    subst this
    rw [List.take_length] at hm
    refine ⟨rfl, S, ?_, fun e => absurd h e, fun _ => ⟨hS, hm⟩⟩
    rw [h]
    rfl
end Go.Proofs.Ytlnmkolppgkglaa
