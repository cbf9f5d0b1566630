/- law27: the program's table. -/
import Derived.Test.Ytlnmkolppgkglaa28B
set_option linter.all false
set_option maxHeartbeats 4000000
set_option maxRecDepth 100000
namespace Go.Proofs.Ytlnmkolppgkglaa
open Go Go.RowKit Go.Sy Go.Proofs Go.Sort

theorem vals29_ok (na : Bool) (l : List BV) : CallOk Try.prog 29 [listB na l] [] fun r st' => r = .clo 46 [.ptr 0 0] ∧ st' = [.cells 23 [listB na l]] := by
  refine callOk_of false 1 Try.func29 rfl rfl (Nat.zero_le _) ?_
  conv => whnf
  repeat (first | (refine rest_vc ?_; conv => whnf) | (refine ⟨by decide, ?_⟩; conv => whnf))
  exact ⟨rfl, rfl⟩

theorem compact_nil (nl : Bool) : CallOk Try.prog 31 [.vref 0 0, fnv 32] [.vec 0 22 1 nl []] fun r st' => r = .vref 0 0 ∧ st' = [.vec 0 22 1 nl []] := by
  refine callOk_of false 1 Try.func31 rfl rfl (by show 1 ≤ 1; decide) ?_
  conv => whnf
  repeat (first | (refine rest_vc ?_; conv => whnf) | (refine ⟨by decide, ?_⟩; conv => whnf))
  intro _
  conv => whnf
  repeat (first | (refine rest_vc ?_; conv => whnf) | (refine ⟨by decide, ?_⟩; conv => whnf))
  exact ⟨rfl, rfl⟩

theorem kept_mem : ∀ (l : List BV) (p x : BV), x ∈ kptB p l → x ∈ l
  | [], p, x, h => h
  | y :: l, p, x, h => by
    unfold kptB at h
    split at h
    · exact List.mem_cons_of_mem _ (kept_mem l y x h)
    · rcases List.mem_cons.1 h with e | e
      · simp [e]
      · exact List.mem_cons_of_mem _ (kept_mem l y x e)
theorem comp_mem {d : List BV} {x : BV} (h : x ∈ compB d) : x ∈ d := by
  cases d with
  | nil => exact h
  | cons p l =>
    rcases List.mem_cons.1 h with e | e
    · simp [e]
    · exact List.mem_cons_of_mem _ (kept_mem l p x e)

def prT (k : List Int) (keep : List K) (b : List Int) : PV := .agg [.list 1 false (u8s b), .list 1 false (u8s (mappedI k keep b))]

def TabR (k : List Int) (keep : List K) (l : List BV) (r : SV) : Prop :=
  ∃ S : List (List Int), r = .tup [.pure (.list 2 S.isEmpty (S.map (prT k keep))), vI .i64 (askedI k keep l)] ∧ (askedI k keep l ≠ 0 → S = []) ∧ (askedI k keep l = 0 → SrtS S ∧ ∀ b, b ∈ S ↔ b ∈ l.map (·.2))

theorem asked0 {k : List Int} {keep : List K} {l : List BV} (h : askedI k keep l = 0) : k.length = 16 ∧ (∀ x ∈ l, 1 ≤ x.2.length ∧ x.2.length ≤ 16) ∧ keep.length ≤ 60 ∧ keep.any badK = false := by
  unfold askedI at h
  split at h
  · cases h
  · rename_i h1
    split at h
    · cases h
    · rename_i h2
      simp only [not_or, Bool.not_eq_true, Decidable.not_not] at h1
      obtain ⟨a, b, c⟩ := h1
      refine ⟨a, fun x hx => ?_, by omega, c⟩
      have := List.any_eq_false.1 b x hx
      have h2 : isAd x.2 = true := by simpa using this
      exact of_decide_eq_true h2

theorem Table_ok (nk nl na : Bool) (k : List Int) (keep : List K) (l : List BV) (hk : (k.length : Int) ≤ 2000000) (hl : (keep.length : Int) ≤ 2000000) (hl2 : (l.length : Int) ≤ 2000000) (hnl : ∀ x ∈ l, x.1 = true → x.2 = []) (hb : ∀ x ∈ l, Bts x.2) :
    CallOk Try.prog 15 [bts nk k, .pure (.list 2 nl (keep.map kp)), .pure (.list 1 na (l.map pvb))] [] fun r st' => st' = [] ∧ TabR k keep l r := by
  refine callOk_of true 0 Try.func15 rfl rfl (Nat.le_refl _) ?_
  conv => whnf
  repeat (first | (refine rest_vc ?_; conv => whnf) | (refine ⟨by decide, ?_⟩; conv => whnf))
  refine CallIn.to (asked_ok nk nl na k keep l hk hl hl2) (k := ?_)
  conv => whnf
  repeat (first | (refine rest_vc ?_; conv => whnf) | (refine ⟨by decide, ?_⟩; conv => whnf))
  split <;> rename_i h <;> (conv => whnf) <;> repeat (first | (refine rest_vc ?_; conv => whnf) | (refine ⟨by decide, ?_⟩; conv => whnf))
  · have h : askedI k keep l ≠ 0 := by simpa using h
    exact ⟨rfl, [], rfl, fun _ => rfl, fun e => absurd e h⟩
  have h : askedI k keep l = 0 := by simpa using h
  obtain ⟨k16, had, hkl, _⟩ := asked0 h
  refine CallIn.o [] (vals29_ok na l) (k := ?_)
  rintro r st' ⟨rfl, rfl⟩
  conv => whnf
  repeat (first | (refine rest_vc ?_; conv => whnf) | (refine ⟨by decide, ?_⟩; conv => whnf))
  refine CallIn.o [0] (sortedFunc_ok na l (by omega)) (k := ?_)
  rintro r st' ⟨e, rfl, rfl, hs⟩
  conv => whnf
  repeat (refine ⟨by decide, ?_⟩; conv => whnf)
  by_cases hl0 : l = []
  · subst hl0
    have he : encs e = [] := by
      have := hs.1.1
      apply List.eq_nil_of_length_eq_zero
      rw [encs_len]
      simpa using this
    refine rest_st (st' := [.cells 23 [listB na []], .gone, .vec 0 22 1 true []]) (by show [_, _, Ob.vec _ _ _ _ (encs e)] = _; rw [he]; rfl) ?_
    refine rest_vc ?_
    conv => whnf
    repeat (first | (refine rest_vc ?_; conv => whnf) | (refine ⟨by decide, ?_⟩; conv => whnf))
    refine CallIn.o [2] (compact_nil true) (k := ?_)
    rintro r st' ⟨rfl, rfl⟩
    conv => whnf
    repeat (first | (refine rest_vc ?_; conv => whnf) | (refine ⟨by decide, ?_⟩; conv => whnf))
    intro _
    conv => whnf
    repeat (first | (refine rest_vc ?_; conv => whnf) | (refine ⟨by decide, ?_⟩; conv => whnf))
    refine awp_loop (n := 43) (α := Unit) (fun _ => True) (fun _ => [(10, .pure (.list 2 true [])), (26, vI .i64 0), (27, vI .i64 0)]) (fun _ => []) (fun _ => 0) () (fun _ => 0)
      trivial rfl ⟨rfl, rfl, rfl, trivial⟩ rfl (fun _ _ => rfl) (fun _ => ⟨Nat.le_refl _, rfl, rfl⟩) ?_
    intro _ _
    conv => whnf
    repeat (first | (refine rest_vc ?_; conv => whnf) | (refine ⟨by decide, ?_⟩; conv => whnf))
    exact ⟨[], by rw [h]; rfl, fun _ => rfl, fun _ => ⟨List.Pairwise.nil, fun b => Iff.rfl⟩⟩
  have hes : e.toList.length = l.length := by have := hs.1.1; simpa using this
  have hlp : 0 < l.length := List.length_pos_iff.2 hl0
  have hnlf : l.isEmpty = false := by cases l with
    | nil => exact absurd rfl hl0
    | cons _ _ => rfl
  have hflat : ∀ L : List BV, (L.map encB).flatMap PV.cells = L.map encB := fun L => by
    induction L with
    | nil => rfl
    | cons x L ih => rw [List.map_cons, List.flatMap_cons, ih]; rfl
  refine rest_st (st' := [.cells 23 [listB na l], .gone] ++ [.vec 0 22 1 false (e.toList.map encB)]) (by show [_, _, Ob.vec _ _ _ l.isEmpty _] = _; rw [hnlf]; rfl) ?_
  refine rest_row 9 [(0, bts nk k), (1, .pure (.list 2 nl (keep.map kp)))] rfl ⟨rfl, rfl, trivial⟩ rfl rfl (Nat.zero_le _) (hflat _) ?_
  obtain ⟨hS1, hS2⟩ := set_spec hs hb
  have hcr := compact_row 22 e.toList (by omega) (by omega)
  have hcb : ∀ x ∈ compB e.toList, x.1 = false ∧ Bts x.2 ∧ x.2.length ≤ 16 := by
    intro x hx
    have hm : x ∈ l := (sorted_pw hs).2.mem_iff.1 (comp_mem hx)
    have h1 := had x hm
    refine ⟨?_, hb x hm, h1.2⟩
    cases hx1 : x.1 with
    | false => rfl
    | true => have := hnl x hm hx1; rw [this] at h1; simp at h1
  have hcl := compB_len e.toList
  obtain ⟨C, hC⟩ : ∃ C, C = compB e.toList := ⟨_, rfl⟩
  rw [← hC] at hS1 hS2 hcr hcb hcl
  rw [show (e.toList.map encB).length = e.toList.length from List.length_map _]
  refine rest_vc ?_
  conv => whnf
  repeat (first | (refine rest_vc ?_; conv => whnf) | (refine ⟨by decide, ?_⟩; conv => whnf))
  refine CallIn.o [2] hcr (k := ?_)
  rintro r st' ⟨junk, rfl, rfl⟩
  conv => whnf
  repeat (first | (refine rest_vc ?_; conv => whnf) | (refine ⟨by decide, ?_⟩; conv => whnf))
  refine hand_ghost 10 43 2 rfl ?_
  refine awp_loop (n := 43) (α := Nat) (fun i => i ≤ C.length) (fun i => [(0, bts nk k), (1, .pure (.list 2 nl (keep.map kp))), (10, .vref 3 0), (25, .sref 2 0 C.length), (26, vI .i64 (C.length : Nat)), (27, vI .i64 i)])
    (fun i => [.cells 23 [listB na l], .gone, .row 22 e.toList.length (C.map encB ++ junk), .vec 0 43 2 (C.take i).isEmpty ((C.take i).map fun x => prT k keep x.2)]) (fun i => C.length - i) 0 (fun _ => 0)
    (Nat.zero_le _) rfl ⟨rfl, rfl, rfl, rfl, rfl, rfl, trivial⟩ rfl (fun _ _ => rfl) (fun _ => ⟨Nat.zero_le _, rfl, rfl⟩) ?_
  intro i hi
  conv => whnf
  repeat (first | (refine rest_vc ?_; conv => whnf) | (refine ⟨by decide, ?_⟩; conv => whnf))
  split <;> rename_i g <;> (conv => whnf) <;> repeat (first | (refine rest_vc ?_; conv => whnf) | (refine ⟨by decide, ?_⟩; conv => whnf))
  · have g := of_decide_eq_true g
    obtain ⟨x, hx⟩ : ∃ x, C[i]? = some x := ⟨_, List.getElem?_eq_getElem (by omega)⟩
    obtain ⟨nx, b⟩ := x
    obtain ⟨x1, x2, x3⟩ := hcb _ (List.mem_of_getElem? hx)
    simp only at x1 x2 x3
    subst x1
    refine ⟨by omega, ?_⟩
    conv => whnf
    repeat (first | (refine rest_vc ?_; conv => whnf) | (refine ⟨by decide, ?_⟩; conv => whnf))
    refine ⟨by show 0 + _ < _; omega, fun q hq => ?_⟩
    rw [Nat.zero_add, Int.toNat_natCast, List.getElem?_append_left (by rw [List.length_map]; omega)] at hq
    obtain ⟨x', hx', rfl⟩ := map_get hq
    rw [hx] at hx'
    cases hx'
    conv => whnf
    repeat (first | (refine rest_vc ?_; conv => whnf) | (refine ⟨by decide, ?_⟩; conv => whnf))
    refine CallIn.o [] (clone_ok b (by omega)) (k := ?_)
    rintro r st' ⟨rfl, rfl⟩
    conv => whnf
    repeat (first | (refine rest_vc ?_; conv => whnf) | (refine ⟨by decide, ?_⟩; conv => whnf))
    refine CallIn.to (mapped_ok nk nl k b keep k16 x3 hl) (k := ?_)
    conv => whnf
    repeat (first | (refine rest_vc ?_; conv => whnf) | (refine ⟨by decide, ?_⟩; conv => whnf))
    refine ⟨by simp only [List.length_map, List.length_take, List.length_cons, List.length_nil]; show _ * 48 ≤ _; omega, ?_⟩
    conv => whnf
    repeat (first | (refine rest_vc ?_; conv => whnf) | (refine ⟨by decide, ?_⟩; conv => whnf))
    refine ⟨i + 1, fun o => if o = 3 then 1 else 0, by omega, by omega, rfl, ⟨rfl, rfl, rfl, rfl, rfl, congrArg (vI .i64) (succ64 (by omega)), trivial⟩, ?_, fun o ho => absurd (show o < 0 from ho) (Nat.not_lt_zero _)⟩
    have e1 : C.take (i + 1) = C.take i ++ [(false, b)] := by rw [List.take_add_one, hx]; rfl
    rw [e1, List.map_append, ← isEmpty_snoc (C.take i).isEmpty]
    rfl
  · have g := of_decide_eq_false g
    have : i = C.length := by omega
    subst this
    refine ⟨rfl, C.map (·.2), ?_, fun e => absurd h e, fun _ => ⟨hS1, hS2⟩⟩
    rw [h]
    show SV.tup [.pure (.list 2 (C.take C.length).isEmpty ((C.take C.length).map _)), _] = _
    rw [List.take_length, List.map_map]
    cases C <;> rfl
end Go.Proofs.Ytlnmkolppgkglaa
