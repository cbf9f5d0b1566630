/- law27: what is gathered out of an iterator, and sorted. -/
import Derived.Test.Ytlnmkolppgkglaa27W
import Derived.Test.YtlnmkolppgkglaaSyY
set_option linter.all false
set_option maxHeartbeats 4000000
set_option maxRecDepth 100000
namespace Go.Proofs.Ytlnmkolppgkglaa
open Go Go.RowKit Go.Sy Go.Proofs Go.Sort

theorem len0_ok : CallOk Try.prog 72 [vI .u64 0] [] fun r st' => st' = [] ∧ r = vI .i64 0 := by
  refine callOk_of true 0 Try.func72 rfl rfl (Nat.le_refl _) ?_
  conv => whnf
  repeat (first | (refine rest_vc ?_; conv => whnf) | (refine ⟨by decide, ?_⟩; conv => whnf))
  exact congrArg (vI .i64) (by decide)

theorem blen0_ok : CallOk Try.prog 57 [vI .u64 0] [] fun r st' => st' = [] ∧ r = vI .i64 0 := by
  refine callOk_of true 0 Try.func57 rfl rfl (Nat.le_refl _) ?_
  conv => whnf
  repeat (first | (refine rest_vc ?_; conv => whnf) | (refine ⟨by decide, ?_⟩; conv => whnf))
  refine CallIn.to (len0_ok) (k := ?_)
  conv => whnf
  repeat (first | (refine rest_vc ?_; conv => whnf) | (refine ⟨by decide, ?_⟩; conv => whnf))
  rfl

theorem blen_any (n : Nat) (h2 : n < 2 ^ 60) : CallOk Try.prog 57 [vI .u64 n] [] fun r st' => st' = [] ∧ ∃ l : Int, r = vI .i64 l := by
  by_cases h : n = 0
  · subst h
    exact blen0_ok.mono fun r st' ⟨h1, h2⟩ => ⟨h1, _, h2⟩
  · exact (blen_ok n (by omega) h2).mono fun r st' ⟨h1, l, h2, _⟩ => ⟨h1, _, h2⟩

theorem below_full (lt : BV → BV → Bool) (d : Array BV) : Below lt 0 d.size d := .inl rfl

theorem sortFunc_ok (nl : Bool) (d : Array BV) (hd : d.size < 2 ^ 60) :
    CallOk Try.prog 45 [.vref 0 0, cmpV] [vecB nl d] fun r st' => ∃ e, r = .tup [] ∧ st' = [vecB nl e] ∧ Srt 0 d.size d e := by
  refine callOk_of false 1 Try.func45 rfl rfl (Nat.le_refl _) ?_
  conv => whnf
  repeat (first | (refine rest_vc ?_; conv => whnf) | (refine ⟨by decide, ?_⟩; conv => whnf))
  intro _
  conv => whnf
  repeat (first | (refine rest_vc ?_; conv => whnf) | (refine ⟨by decide, ?_⟩; conv => whnf))
  have e1 : IntKind.u64.wrap ((encs d).length : Int) = (d.size : Int) := by rw [encs_len]; exact u64_nat (by omega)
  refine CallIn.top (blen_any d.size hd) (ha := by exact congrArg (fun z => [vI .u64 z]) e1) (hf := by first | exact .inr (fun r hr => by obtain ⟨l, rfl⟩ := hr; rfl) | exact .inl (congrArg (fun z => [vI .u64 z]) e1.symm)) (k := ?_)
  rintro r ⟨l, rfl⟩
  conv => whnf
  repeat (first | (refine rest_vc ?_; conv => whnf) | (refine ⟨by decide, ?_⟩; conv => whnf))
  have hp := pdq_ok nl (d.size + 1) d 0 d.size l (by omega) (Nat.zero_le _) (Nat.le_refl _) hd (below_full _ _)
  rw [← encs_len d] at hp
  refine CallIn.o [0] hp (k := ?_)
  rintro r st' ⟨e, rfl, rfl, hs⟩
  conv => whnf
  repeat (first | (refine rest_vc ?_; conv => whnf) | (refine ⟨by decide, ?_⟩; conv => whnf))
  rw [encs_len] at hs
  exact ⟨e, rfl, rfl, hs⟩

abbrev listB (nl : Bool) (l : List BV) : SV := .pure (.list 1 nl (l.map encB))

/-- The objects of a round that gathers. -/
abbrev obs4 (E : List SV) (ps : Array Tmp) (asg body : Code) (na : Bool) (l : List BV) (i : Nat) : List Ob :=
  [.loop E ps asg body .ready none, .cells 23 [listB na l], .cells 23 [.vref 3 i], .vec i 22 1 (l.take i).isEmpty ((l.take i).map encB)]

theorem values_ok (E : List SV) (hE : SV.inL 4 E = true) (ps : Array Tmp) (asg body : Code) (na : Bool) (l : List BV) (hl : l.length < 2 ^ 40)
    (round : ∀ i x, l[i]? = some x → RoundOk Try.prog [.pure (encB x)] (obs4 E ps asg body na l i) fun r st' => r = vB true ∧ st' = obs4 E ps asg body na l (i + 1)) :
    CallOk Try.prog 46 [.yld 0, .ptr 1 0] (obs4 E ps asg body na l 0) fun r st' => r = .tup [] ∧ st' = obs4 E ps asg body na l l.length := by
  refine callOk_of false 4 Try.func46 rfl rfl (Nat.le_refl _) ?_
  conv => whnf
  repeat (first | (refine rest_vc ?_; conv => whnf) | (refine ⟨by decide, ?_⟩; conv => whnf))
  intro _
  conv => whnf
  repeat (first | (refine rest_vc ?_; conv => whnf) | (refine ⟨by decide, ?_⟩; conv => whnf))
  refine awp_loop (n := 16) (α := Nat) (fun i => i ≤ l.length) (fun i => [(0, .yld 0), (5, listB na l), (6, vI .i64 (l.length : Nat)), (7, vI .i64 i)]) (fun i => obs4 E ps asg body na l i) (fun i => l.length - i) 0 (fun _ => 0)
    (Nat.zero_le _) rfl ⟨rfl, rfl, congrArg (vI .i64) (by rw [List.length_map]), rfl, trivial⟩ (by simp [obs4, upSt, Ob.up, upL_zero, SV.upL, SV.up]) (fun _ _ => rfl) (fun i => ⟨Nat.le_refl _, rfl, by simp [Ob.inn, hE]; exact ⟨rfl, rfl⟩⟩) ?_
  intro i hi
  conv => whnf
  repeat (first | (refine rest_vc ?_; conv => whnf) | (refine ⟨by decide, ?_⟩; conv => whnf))
  split <;> rename_i h <;> (conv => whnf) <;> repeat (first | (refine rest_vc ?_; conv => whnf) | (refine ⟨by decide, ?_⟩; conv => whnf))
  · have h := of_decide_eq_true h
    refine ⟨by rw [List.length_map]; omega, fun p hp => ?_⟩
    obtain ⟨x, hx, rfl⟩ := map_get hp
    rw [Int.toNat_natCast] at hx
    conv => whnf
    repeat (first | (refine rest_vc ?_; conv => whnf) | (refine ⟨by decide, ?_⟩; conv => whnf))
    refine YieldIn.mk [0, 1, 2, 3] [.pure (encB x)] (obs4 E ps asg body na l i) _ (by decide) (fun i hi => by simp at hi; show i < 4; omega) rfl rfl rfl ?_ (by simp [Ob.inn, hE]; exact ⟨rfl, rfl⟩) (round i x hx) ?_
    · have e := rnL_id (m := fun j => [0, 1, 2, 3].getD j 0) (k := 4) (fun j hj => by have : j = 0 ∨ j = 1 ∨ j = 2 ∨ j = 3 := by omega
                                                                                      rcases this with rfl | rfl | rfl | rfl <;> rfl) E hE
      simp only [List.map_cons, List.map_nil, Ob.rn, e]
      rfl
    · rintro r st' ⟨rfl, rfl⟩
      conv => whnf
      repeat (first | (refine rest_vc ?_; conv => whnf) | (refine ⟨by decide, ?_⟩; conv => whnf))
      have e := rnL_id (m := backN [0, 1, 2, 3] 4) (k := 4) (fun j hj => by have : j = 0 ∨ j = 1 ∨ j = 2 ∨ j = 3 := by omega
                                                                            rcases this with rfl | rfl | rfl | rfl <;> rfl) E hE
      refine ⟨i + 1, fun _ => 0, by omega, by omega, rfl, ⟨rfl, rfl, rfl, congrArg (vI .i64) (by rw [w64 (by omega) (by omega)]; omega), trivial⟩, ?_, fun _ _ => rfl⟩
      show [Ob.loop (SV.rnL (backN [0, 1, 2, 3] 4) E) ps asg body .ready none, _, _, _] = _
      rw [e]
      simp [upSt, Ob.up, upL_zero, SV.upL, SV.up, SV.rnL, SV.rn, Ob.rn]
      rfl
  · have h := of_decide_eq_false h
    have : i = l.length := by omega
    subst this
    exact must_iff.2 ⟨by simp [Ob.inn, hE, SV.inL, SV.inn], rfl, rfl⟩

theorem appendSeq_ok (na : Bool) (l : List BV) (hl : l.length < 2 ^ 40) :
    CallOk Try.prog 55 [.pure (.list 1 true []), .clo 46 [.ptr 0 0]] [.cells 23 [listB na l]] fun r st' => r = .vref 2 l.length ∧ st' = [.cells 23 [listB na l], .gone, .vec l.length 22 1 l.isEmpty (l.map encB)] := by
  refine callOk_of false 3 Try.func55 rfl rfl (by show 1 ≤ 3; decide) ?_
  conv => whnf
  repeat (first | (refine rest_vc ?_; conv => whnf) | (refine ⟨by decide, ?_⟩; conv => whnf))
  refine hand_ghostc 1 22 1 rfl ?_
  refine hand_range [3, 0, 1, 2] (values_ok [.pure (.list 1 true []), .clo 46 [.ptr 1 0], .ptr 2 0, .dead, .pure (.list 1 true []), .dead, .clo 46 [.ptr 1 0], .dead, .dead, .dead, .dead, .dead, .dead] rfl _ _ _ na l hl ?_)
    ⟨_, Try.func46, rfl, by kernel_rfl⟩ rfl rfl rfl rfl rfl rfl rfl rfl ?_
  · intro i x hx
    refine roundOk_of rfl ?_
    conv => whnf
    repeat (first | (refine rest_vc ?_; conv => whnf) | (refine ⟨by decide, ?_⟩; conv => whnf))
    refine must_nn rfl ⟨by simp only [List.length_map, List.length_take, List.length_cons, List.length_nil]; show _ * 24 ≤ _; omega, ?_⟩
    conv => whnf
    repeat (first | (refine rest_vc ?_; conv => whnf) | (refine ⟨by decide, ?_⟩; conv => whnf))
    refine ⟨rfl, ?_⟩
    have e : l.take (i + 1) = l.take i ++ [x] := by rw [List.take_add_one, hx]; rfl
    show [_, _, _, Ob.vec _ _ _ _ _] = [_, _, _, Ob.vec _ _ _ _ _]
    rw [e, List.map_append, ← isEmpty_snoc (l.take i).isEmpty]
    rfl
  · rintro r st' ⟨rfl, rfl⟩
    refine ⟨by decide, ?_⟩
    conv => whnf
    repeat (refine ⟨by decide, ?_⟩; conv => whnf)
    refine rest_st (st' := [.cells 23 [listB na l], .cells 23 [.vref 2 l.length], .vec l.length 22 1 l.isEmpty (l.map encB), .gone]) ?_ ?_
    · show [_, _, Ob.vec _ _ _ (l.take l.length).isEmpty ((l.take l.length).map encB), _] = _
      rw [List.take_length]
      rfl
    refine rest_vc ?_
    conv => whnf
    repeat (refine ⟨by decide, ?_⟩; conv => whnf)
    refine rest_drop 1 ?_
    refine rest_vc ?_
    conv => whnf
    repeat (first | (refine rest_vc ?_; conv => whnf) | (refine ⟨by decide, ?_⟩; conv => whnf))
    exact ⟨rfl, rfl⟩

theorem collect_ok (na : Bool) (l : List BV) (hl : l.length < 2 ^ 40) :
    CallOk Try.prog 44 [.clo 46 [.ptr 0 0]] [.cells 23 [listB na l]] fun r st' => r = .vref 2 l.length ∧ st' = [.cells 23 [listB na l], .gone, .vec l.length 22 1 l.isEmpty (l.map encB)] := by
  refine callOk_of false 3 Try.func44 rfl rfl (by show 1 ≤ 3; decide) ?_
  conv => whnf
  repeat (first | (refine rest_vc ?_; conv => whnf) | (refine ⟨by decide, ?_⟩; conv => whnf))
  refine CallIn.o [0] (appendSeq_ok na l hl) (k := ?_)
  rintro r st' ⟨rfl, rfl⟩
  conv => whnf
  repeat (first | (refine rest_vc ?_; conv => whnf) | (refine ⟨by decide, ?_⟩; conv => whnf))
  exact ⟨rfl, rfl⟩

theorem sortedFunc_ok (na : Bool) (l : List BV) (hl : l.length < 2 ^ 40) :
    CallOk Try.prog 28 [.clo 46 [.ptr 0 0], cmpV] [.cells 23 [listB na l]] fun r st' => ∃ e, r = .vref 2 0 ∧ st' = [.cells 23 [listB na l], .gone, vecB l.isEmpty e] ∧ Srt 0 l.length l.toArray e := by
  refine callOk_of false 3 Try.func28 rfl rfl (by show 1 ≤ 3; decide) ?_
  conv => whnf
  repeat (first | (refine rest_vc ?_; conv => whnf) | (refine ⟨by decide, ?_⟩; conv => whnf))
  refine CallIn.o [0] (collect_ok na l hl) (k := ?_)
  rintro r st' ⟨rfl, rfl⟩
  conv => whnf
  repeat (refine ⟨by decide, ?_⟩; conv => whnf)
  refine rest_norm 12 (fun o => if o = 2 then l.length else 0) [(1, cmpV), (5, .vref 2 0)] [.cells 23 [listB na l], .gone, .vec 0 22 1 l.isEmpty (l.map encB)] rfl ⟨rfl, by simp [SV.up]; rfl, trivial⟩ (by simp [upSt, Ob.up, SV.upL, SV.up]; rfl) ⟨by show 1 ≤ 3; decide, rfl, rfl⟩ (fun o ho => by have : o < 1 := ho; simp; omega) ?_
  refine rest_vc ?_
  conv => whnf
  repeat (first | (refine rest_vc ?_; conv => whnf) | (refine ⟨by decide, ?_⟩; conv => whnf))
  have hs := sortFunc_ok l.isEmpty l.toArray (by simpa using (by omega : l.length < 2 ^ 60))
  refine CallIn.o [2] hs (k := ?_)
  rintro r st' ⟨e, rfl, rfl, hs⟩
  conv => whnf
  repeat (first | (refine rest_vc ?_; conv => whnf) | (refine ⟨by decide, ?_⟩; conv => whnf))
  exact ⟨e, rfl, rfl, by simpa using hs⟩
end Go.Proofs.Ytlnmkolppgkglaa
