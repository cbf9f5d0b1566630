/- Part 5 of 8: the walks and laws on which the last part rests. No conditions. -/
import Derived.Test.YtafngalmkblipaaGreatDoorQ4
/- law10: preferences of books. -/
set_option linter.all false
set_option maxHeartbeats 4000000
set_option maxRecDepth 100000
namespace Go.Proofs.YtafngalmkblipaaGreatDoor
open Go Go.RowKit Go.Sy Go.Proofs

/-- The first one of some, from a place on. -/
def fstI {α : Type} (f : α → Bool) : List α → Nat → Int
  | [], _ => -1
  | x :: r, i => if f x then i else fstI f r (i + 1)
theorem fstI_at {α : Type} {f : α → Bool} {l : List α} {i : Nat} {x : α} (h : l[i]? = some x) : fstI f (l.drop i) i = if f x then (i : Int) else fstI f (l.drop (i + 1)) (i + 1) := by
  have hi := (List.getElem?_eq_some_iff.1 h)
  obtain ⟨h1, h2⟩ := hi
  rw [List.drop_eq_getElem_cons h1, h2]
  rfl
theorem fstI_end {α : Type} {f : α → Bool} {l : List α} {i : Nat} (h : l.length ≤ i) : fstI f (l.drop i) i = -1 := by
  rw [List.drop_eq_nil_of_le h]; rfl
theorem fstI_lt {α : Type} (f : α → Bool) : ∀ (l : List α) (i : Nat), (-1 : Int) ≤ fstI f l i ∧ fstI f l i < i + l.length
  | [], i => by simp only [fstI, List.length_nil]; omega
  | x :: r, i => by
    have := fstI_lt f r (i + 1)
    simp only [fstI, List.length_cons]
    split <;> omega

def isPf (s : ByteArray) (p : Pf) : Bool := eqBA p.n s

theorem pfIs_ok (p : Pf) (s : ByteArray) : CallOk Tryz.prog 92 [.pure (pvF p), .ipt [.val (.string s)]] [] fun r st' => st' = [] ∧ r = vB (isPf s p) := by
  refine callOk_of true 0 Tryz.func92 rfl rfl (Nat.le_refl _) ?_
  conv => whnf
  repeat (first | (refine rest_vc ?_; conv => whnf) | (refine ⟨by decide, ?_⟩; conv => whnf))
  split <;> rename_i h <;> (conv => whnf) <;> repeat (first | (refine rest_vc ?_; conv => whnf) | (refine ⟨by decide, ?_⟩; conv => whnf))
  · exact ⟨rfl, congrArg vB (by unfold isPf eqBA; rw [h])⟩
  · exact ⟨rfl, congrArg vB (by unfold isPf eqBA; rw [h])⟩

theorem pfIx_ok (nl : Bool) (l : List Pf) (s : ByteArray) (hl : (l.length : Int) ≤ 2000000) :
    CallOk Tryz.prog 91 [.pure (.list 5 nl (l.map pvF)), .clo 92 [.ipt [.val (.string s)]]] [] fun r st' => st' = [] ∧ r = vI .i64 (fstI (isPf s) l 0) := by
  refine callOk_of true 0 Tryz.func91 rfl rfl (Nat.le_refl _) ?_
  conv => whnf
  repeat (first | (refine rest_vc ?_; conv => whnf) | (refine ⟨by decide, ?_⟩; conv => whnf))
  intro _
  conv => whnf
  repeat (first | (refine rest_vc ?_; conv => whnf) | (refine ⟨by decide, ?_⟩; conv => whnf))
  refine awp_loop (n := 19) (α := Nat) (fun i => i ≤ l.length ∧ fstI (isPf s) (l.drop i) i = fstI (isPf s) l 0) (fun i => [(0, .pure (.list 5 nl (l.map pvF))), (1, .clo 92 [.ipt [.val (.string s)]]), (7, vI .i64 (l.length : Nat)), (8, vI .i64 i)])
    (fun _ => []) (fun i => l.length - i) 0 (fun _ => 0)
    ⟨Nat.zero_le _, rfl⟩ rfl ⟨rfl, rfl, congrArg (vI .i64) (by rw [List.length_map]), rfl, trivial⟩ rfl (fun _ _ => rfl) (fun _ => ⟨Nat.le_refl _, rfl, rfl⟩) ?_
  rintro i ⟨hi, hc⟩
  conv => whnf
  repeat (first | (refine rest_vc ?_; conv => whnf) | (refine ⟨by decide, ?_⟩; conv => whnf))
  split <;> rename_i h <;> (conv => whnf) <;> repeat (first | (refine rest_vc ?_; conv => whnf) | (refine ⟨by decide, ?_⟩; conv => whnf))
  · have h := of_decide_eq_true h
    have hlt : i < l.length := by omega
    refine ⟨by rw [List.length_map]; omega, fun p hp => ?_⟩
    rw [List.getElem?_map, Option.map_eq_some_iff] at hp
    obtain ⟨q, hq, rfl⟩ := hp
    have hq : l[i]? = some q := by simpa using hq
    conv => whnf
    repeat (first | (refine rest_vc ?_; conv => whnf) | (refine ⟨by decide, ?_⟩; conv => whnf))
    refine CallIn.tob ((pfIs_ok q s)) (k := ?_)
    intro b h2
    cases b <;> (conv => whnf) <;> repeat (first | (refine rest_vc ?_; conv => whnf) | (refine ⟨by decide, ?_⟩; conv => whnf))
    · refine ⟨i + 1, fun _ => 0, ⟨hlt, ?_⟩, ?_, rfl, ⟨rfl, rfl, rfl, congrArg (vI .i64) ?_, trivial⟩, rfl, fun _ _ => rfl⟩
      · rw [← hc, fstI_at hq, if_neg (by rw [h2]; decide)]
      · omega
      · rw [w64 (by omega) (by omega)]; omega
    · exact ⟨rfl, congrArg (vI .i64) (by rw [← hc, fstI_at hq, if_pos h2])⟩
  · have h := of_decide_eq_false h
    exact ⟨rfl, congrArg (vI .i64) (by rw [← hc, fstI_end (by omega)])⟩

theorem find_ok (b : BkP) (l : List Pf) (hp : b.prefs = l.map pvF) (s : ByteArray) (hl : (l.length : Int) ≤ 2000000) :
    CallOk Tryz.prog 68 [.agg [.vref 0 b.vr, .mref 1, .mref 2, .vref 3 b.vp, .mref 4, .mref 5], vS s] (bkT b) fun r st' => r = vI .i64 (fstI (isPf s) l 0) ∧ st' = bkT b := by
  refine callOk_of false 6 Tryz.func68 rfl rfl (Nat.le_refl _) ?_
  conv => whnf
  repeat (refine ⟨by decide, ?_⟩; conv => whnf)
  refine rest_frc 7 rfl rfl ?_
  refine rest_vc ?_
  conv => whnf
  repeat (first | (refine rest_vc ?_; conv => whnf) | (refine ⟨by decide, ?_⟩; conv => whnf))
  refine CallIn.to (pfIx_ok b.np l s hl) (ha := by simp [argsOf, nilAt, St.ev, SV.fz, hp, fcAt]) (hf := by first | exact .inr rfl | exact .inl (Eq.symm (by simp [argsOf, nilAt, St.ev, SV.fz, hp, fcAt]))) (k := ?_)
  conv => whnf
  repeat (first | (refine rest_vc ?_; conv => whnf) | (refine ⟨by decide, ?_⟩; conv => whnf))
  exact ⟨rfl, rfl⟩

def prefB (b : Bst) (n : ByteArray) (l m u : Int) : Int × Bst :=
  if (!isWordB n || decide (u < l) || decide (u > m) || !isNumB l || !isNumB m) = true then (1, b)
  else if 0 ≤ fstI (isPf n) b.prefs 0 then (5, b)
  else if b.prefs.length ≥ 60 then (3, b)
  else (0, { b with prefs := b.prefs ++ [⟨n, l, m, u, u⟩], vp := b.vp + 1 })

theorem Pref_ok (hw : IsW 66) (b : Bst) (n : ByteArray) (l m u : Int) (hz : (n.size : Int) ≤ 2000000) (hb : (b.prefs.length : Int) ≤ 1000) :
    CallOk Tryz.prog 31 [.ptr 0 0, vS n, vI .i64 l, vI .i64 m, vI .i64 u] (bs b) fun r' st' => r' = vI .i64 (prefB b n l m u).1 ∧ st' = bs (prefB b n l m u).2 := by
  have hbad : (!isWordB n || decide (u < l) || decide (u > m) || !isNumB l || !isNumB m) = true → prefB b n l m u = (1, b) := fun h => by unfold prefB; rw [if_pos h]
  have bad : ∀ {R : Prop}, ((!isWordB n || decide (u < l) || decide (u > m) || !isNumB l || !isNumB m) = true → R) → (!isWordB n || decide (u < l) || decide (u > m) || !isNumB l || !isNumB m) = true → R := fun h g => h g
  have fin : (!isWordB n || decide (u < l) || decide (u > m) || !isNumB l || !isNumB m) = true → (vI .i64 1 = vI .i64 (prefB b n l m u).1 ∧ bs b = bs (prefB b n l m u).2) := fun h => by rw [hbad h]; exact ⟨rfl, rfl⟩
  refine callOkD_of false 7 Tryz.func31 rfl rfl (Nat.le_refl _) ?_
  refine handD_region ?_
  conv => whnf
  refine handD_region ?_
  conv => whnf
  refine CallIn.o [0, 1, 2, 3, 4, 5, 6] (enter_ok b.k) (k := ?_)
  rintro r st' ⟨rfl, rfl⟩
  conv => whnf
  refine handD_defer (pre := [_]) rfl rfl rfl rfl rfl rfl rfl ?_
  conv => whnf
  repeat (first | (refine rest_vc ?_; conv => whnf) | (refine ⟨by decide, ?_⟩; conv => whnf))
  refine ⟨_, rfl, rfl, ?_⟩
  refine rest_vc ?_
  conv => whnf
  repeat (first | (refine rest_vc ?_; conv => whnf) | (refine ⟨by decide, ?_⟩; conv => whnf))
  refine CallIn.tob ((hw n hz)) (k := ?_)
  intro b h1
  cases b <;> (conv => whnf) <;> repeat (first | (refine rest_vc ?_; conv => whnf) | (refine ⟨by decide, ?_⟩; conv => whnf))
  · refine unlockD (P' := b.k) rfl ?_
    conv => whnf
    repeat (first | (refine rest_vc ?_; conv => whnf) | (refine ⟨by decide, ?_⟩; conv => whnf))
    exact fin (by rw [h1]; rfl)
  · split <;> rename_i h2 <;> (conv => whnf) <;> repeat (first | (refine rest_vc ?_; conv => whnf) | (refine ⟨by decide, ?_⟩; conv => whnf))
    · refine unlockD (P' := b.k) rfl ?_
      conv => whnf
      repeat (first | (refine rest_vc ?_; conv => whnf) | (refine ⟨by decide, ?_⟩; conv => whnf))
      exact fin (by rw [h2]; simp)
    · split <;> rename_i h3 <;> (conv => whnf) <;> repeat (first | (refine rest_vc ?_; conv => whnf) | (refine ⟨by decide, ?_⟩; conv => whnf))
      · refine unlockD (P' := b.k) rfl ?_
        conv => whnf
        repeat (first | (refine rest_vc ?_; conv => whnf) | (refine ⟨by decide, ?_⟩; conv => whnf))
        exact fin (by rw [h3]; simp)
      · refine CallIn.tob ((isNum_ok l)) (k := ?_)
        intro b h4
        cases b <;> (conv => whnf) <;> repeat (first | (refine rest_vc ?_; conv => whnf) | (refine ⟨by decide, ?_⟩; conv => whnf))
        · refine unlockD (P' := b.k) rfl ?_
          conv => whnf
          repeat (first | (refine rest_vc ?_; conv => whnf) | (refine ⟨by decide, ?_⟩; conv => whnf))
          exact fin (by rw [h4]; simp)
        · refine CallIn.tob ((isNum_ok m)) (k := ?_)
          intro b h5
          cases b <;> (conv => whnf) <;> repeat (first | (refine rest_vc ?_; conv => whnf) | (refine ⟨by decide, ?_⟩; conv => whnf))
          · refine unlockD (P' := b.k) rfl ?_
            conv => whnf
            repeat (first | (refine rest_vc ?_; conv => whnf) | (refine ⟨by decide, ?_⟩; conv => whnf))
            exact fin (by rw [h5]; simp)
          · have hg : ¬ (!isWordB n || decide (u < l) || decide (u > m) || !isNumB l || !isNumB m) = true := by rw [h1, h2, h3, h4, h5]; decide
            refine CallIn.o [1, 2, 3, 4, 5, 6] (find_ok b.k b.prefs rfl n (by omega)) (k := ?_)
            rintro r st' ⟨rfl, rfl⟩
            conv => whnf
            repeat (first | (refine rest_vc ?_; conv => whnf) | (refine ⟨by decide, ?_⟩; conv => whnf))
            split <;> rename_i h6 <;> (conv => whnf) <;> repeat (first | (refine rest_vc ?_; conv => whnf) | (refine ⟨by decide, ?_⟩; conv => whnf))
            · have h6 := of_decide_eq_true h6
              have he : prefB b n l m u = (5, b) := by unfold prefB; rw [if_neg hg, if_pos h6]
              refine unlockD (P' := b.k) rfl ?_
              conv => whnf
              repeat (first | (refine rest_vc ?_; conv => whnf) | (refine ⟨by decide, ?_⟩; conv => whnf))
              exact ⟨congrArg (vI .i64) (by rw [he]), congrArg bs (by rw [he])⟩
            · have h6 := of_decide_eq_false h6
              refine decrec_nn ?_
              conv => whnf
              repeat (first | (refine rest_vc ?_; conv => whnf) | (refine ⟨by decide, ?_⟩; conv => whnf))
              intro _
              conv => whnf
              repeat (first | (refine rest_vc ?_; conv => whnf) | (refine ⟨by decide, ?_⟩; conv => whnf))
              split <;> rename_i h7 <;> (conv => whnf) <;> repeat (first | (refine rest_vc ?_; conv => whnf) | (refine ⟨by decide, ?_⟩; conv => whnf))
              · have hl : b.prefs.length ≥ 60 := by
                  have : ((b.prefs.map pvF).length : Int) ≥ 60 := of_decide_eq_true h7
                  rw [List.length_map] at this
                  omega
                have he : prefB b n l m u = (3, b) := by unfold prefB; rw [if_neg hg, if_neg h6, if_pos hl]
                refine unlockD (P' := b.k) rfl ?_
                conv => whnf
                repeat (first | (refine rest_vc ?_; conv => whnf) | (refine ⟨by decide, ?_⟩; conv => whnf))
                exact ⟨congrArg (vI .i64) (by rw [he]), congrArg bs (by rw [he])⟩
              · have hl : ¬ b.prefs.length ≥ 60 := by
                  have : ¬ ((b.prefs.map pvF).length : Int) ≥ 60 := of_decide_eq_false h7
                  rw [List.length_map] at this
                  omega
                have he : prefB b n l m u = (0, { b with prefs := b.prefs ++ [⟨n, l, m, u, u⟩], vp := b.vp + 1 }) := by unfold prefB; rw [if_neg hg, if_neg h6, if_neg hl]
                have hlk : b.k.prefs.length ≤ 60 := by show (b.prefs.map pvF).length ≤ 60; rw [List.length_map]; omega
                refine must_nn rfl ?_
                refine ⟨by exact Nat.le_trans (Nat.mul_le_mul_right _ (Nat.add_le_add_right hlk 1)) (by decide), ?_⟩
                conv => whnf
                repeat (first | (refine rest_vc ?_; conv => whnf) | (refine ⟨by decide, ?_⟩; conv => whnf))
                refine unlockD (P' := { b.k with prefs := b.k.prefs ++ [pvF ⟨n, l, m, u, u⟩], np := b.k.np && false, vp := b.vp + 1 }) rfl ?_
                conv => whnf
                repeat (first | (refine rest_vc ?_; conv => whnf) | (refine ⟨by decide, ?_⟩; conv => whnf))
                refine ⟨congrArg (vI .i64) (by rw [he]), ?_⟩
                rw [he]
                have e3 : (b.prefs ++ [Pf.mk n l m u u]).isEmpty = false := by cases b.prefs <;> rfl
                unfold bs Bst.k
                simp [e3]
                rfl


def setB (b : Bst) (n : ByteArray) (v : Int) : Int × Bst :=
  let k := fstI (isPf n) b.prefs 0
  if k < 0 then (4, b) else
  match b.prefs[k.toNat]? with
  | none => (4, b)
  | some p => if (decide (v < p.l) || decide (v > p.m)) = true then (1, b) else (0, { b with prefs := b.prefs.set k.toNat { p with v := v } })

theorem Set_ok (b : Bst) (n : ByteArray) (v : Int) (hb : (b.prefs.length : Int) ≤ 1000) :
    CallOk Tryz.prog 33 [.ptr 0 0, vS n, vI .i64 v] (bs b) fun r' st' => r' = vI .i64 (setB b n v).1 ∧ st' = bs (setB b n v).2 := by
  have hfl := fstI_lt (isPf n) b.prefs 0
  refine callOkD_of false 7 Tryz.func33 rfl rfl (Nat.le_refl _) ?_
  refine handD_region ?_
  conv => whnf
  refine handD_region ?_
  conv => whnf
  refine CallIn.o [0, 1, 2, 3, 4, 5, 6] (enter_ok b.k) (k := ?_)
  rintro r st' ⟨rfl, rfl⟩
  conv => whnf
  refine handD_defer (pre := [_]) rfl rfl rfl rfl rfl rfl rfl ?_
  conv => whnf
  repeat (first | (refine rest_vc ?_; conv => whnf) | (refine ⟨by decide, ?_⟩; conv => whnf))
  refine ⟨_, rfl, rfl, ?_⟩
  refine rest_vc ?_
  conv => whnf
  repeat (first | (refine rest_vc ?_; conv => whnf) | (refine ⟨by decide, ?_⟩; conv => whnf))
  refine CallIn.o [1, 2, 3, 4, 5, 6] (find_ok b.k b.prefs rfl n (by omega)) (k := ?_)
  rintro r st' ⟨rfl, rfl⟩
  conv => whnf
  repeat (first | (refine rest_vc ?_; conv => whnf) | (refine ⟨by decide, ?_⟩; conv => whnf))
  split <;> rename_i h1 <;> (conv => whnf) <;> repeat (first | (refine rest_vc ?_; conv => whnf) | (refine ⟨by decide, ?_⟩; conv => whnf))
  · have h1 := of_decide_eq_true h1
    have he : setB b n v = (4, b) := by unfold setB; simp only; rw [if_pos h1]
    refine unlockD (P' := b.k) rfl ?_
    conv => whnf
    repeat (first | (refine rest_vc ?_; conv => whnf) | (refine ⟨by decide, ?_⟩; conv => whnf))
    exact ⟨congrArg (vI .i64) (by rw [he]), congrArg bs (by rw [he])⟩
  · have h1 := of_decide_eq_false h1
    have hlt : (fstI (isPf n) b.prefs 0).toNat < b.prefs.length := by omega
    obtain ⟨p, hp⟩ : ∃ p, b.prefs[(fstI (isPf n) b.prefs 0).toNat]? = some p := ⟨_, List.getElem?_eq_getElem hlt⟩
    have hin : (fstI (isPf n) b.prefs 0).toNat < (b.prefs.map pvF).length := by rw [List.length_map]; exact hlt
    have hpp : (b.prefs.map pvF)[(fstI (isPf n) b.prefs 0).toNat]? = some (pvF p) := by rw [List.getElem?_map, hp]; rfl
    generalize hk : fstI (isPf n) b.prefs 0 = k at *
    refine must_nn rfl ?_
    refine ⟨by exact ⟨by omega, by show k < ((b.prefs.map pvF).length : Int); omega⟩, ?_⟩
    conv => whnf
    repeat (first | (refine rest_vc ?_; conv => whnf) | (refine ⟨by decide, ?_⟩; conv => whnf))
    refine must_nn rfl ?_
    refine ⟨hin, fun q hq => ?_⟩
    obtain rfl : pvF p = q := Option.some.inj (hpp.symm.trans hq)
    conv => whnf
    repeat (first | (refine rest_vc ?_; conv => whnf) | (refine ⟨by decide, ?_⟩; conv => whnf))
    have hset : decide (v < p.l) = true ∨ decide (v > p.m) = true → setB b n v = (1, b) := fun h => by
      unfold setB; simp only; rw [hk, if_neg h1, hp]; simp only; rw [if_pos (by rcases h with h | h <;> simp [h])]
    split <;> rename_i h2 <;> (conv => whnf) <;> repeat (first | (refine rest_vc ?_; conv => whnf) | (refine ⟨by decide, ?_⟩; conv => whnf))
    · refine unlockD (P' := b.k) rfl ?_
      conv => whnf
      repeat (first | (refine rest_vc ?_; conv => whnf) | (refine ⟨by decide, ?_⟩; conv => whnf))
      exact ⟨congrArg (vI .i64) (by rw [hset (.inl h2)]), congrArg bs (by rw [hset (.inl h2)])⟩
    · refine must_nn rfl ?_
      refine ⟨by exact ⟨by omega, by show k < ((b.prefs.map pvF).length : Int); omega⟩, ?_⟩
      conv => whnf
      repeat (first | (refine rest_vc ?_; conv => whnf) | (refine ⟨by decide, ?_⟩; conv => whnf))
      refine must_nn rfl ?_
      refine ⟨hin, fun q hq => ?_⟩
      obtain rfl : pvF p = q := Option.some.inj (hpp.symm.trans hq)
      conv => whnf
      repeat (first | (refine rest_vc ?_; conv => whnf) | (refine ⟨by decide, ?_⟩; conv => whnf))
      split <;> rename_i h3 <;> (conv => whnf) <;> repeat (first | (refine rest_vc ?_; conv => whnf) | (refine ⟨by decide, ?_⟩; conv => whnf))
      · refine unlockD (P' := b.k) rfl ?_
        conv => whnf
        repeat (first | (refine rest_vc ?_; conv => whnf) | (refine ⟨by decide, ?_⟩; conv => whnf))
        exact ⟨congrArg (vI .i64) (by rw [hset (.inr h3)]), congrArg bs (by rw [hset (.inr h3)])⟩
      · have he : setB b n v = (0, { b with prefs := b.prefs.set k.toNat { p with v := v } }) := by
          unfold setB; simp only; rw [hk, if_neg h1, hp]; simp only; rw [if_neg (by simp [h2, h3])]
        refine must_nn rfl ?_
        refine ⟨by exact ⟨by omega, by show k < ((b.prefs.map pvF).length : Int); omega⟩, ?_⟩
        conv => whnf
        repeat (first | (refine rest_vc ?_; conv => whnf) | (refine ⟨by decide, ?_⟩; conv => whnf))
        refine must_nn rfl ?_
        refine ⟨hin, fun q hq => ?_⟩
        obtain rfl : pvF p = q := Option.some.inj (hpp.symm.trans hq)
        conv => whnf
        repeat (first | (refine rest_vc ?_; conv => whnf) | (refine ⟨by decide, ?_⟩; conv => whnf))
        refine unlockD (P' := { b.k with prefs := b.k.prefs.set k.toNat (pvF { p with v := v }) }) rfl ?_
        conv => whnf
        repeat (first | (refine rest_vc ?_; conv => whnf) | (refine ⟨by decide, ?_⟩; conv => whnf))
        refine ⟨congrArg (vI .i64) (by rw [he]), ?_⟩
        rw [he]
        show bk 0 { b.k with prefs := (b.prefs.map pvF).set k.toNat (pvF { p with v := v }) } = bk 0 (Bst.k _)
        have e1 : (b.prefs.map pvF).set k.toNat (pvF { p with v := v }) = (b.prefs.set k.toNat { p with v := v }).map pvF := by rw [List.map_set]
        have e2 : (b.prefs.set k.toNat { p with v := v }).isEmpty = b.prefs.isEmpty := by cases b.prefs <;> cases k.toNat <;> rfl
        rw [e1]
        unfold Bst.k
        simp only [e2]

end Go.Proofs.YtafngalmkblipaaGreatDoor
/- law10: protocols that are off; names of addresses. -/
set_option linter.all false
set_option maxHeartbeats 4000000
set_option maxRecDepth 100000
namespace Go.Proofs.YtafngalmkblipaaGreatDoor
open Go Go.RowKit Go.Sy Go.Proofs

theorem find_off (a : ByteArray) (l : List (ByteArray × Unit)) : findPV Tryz.prog 9 (pvB a) (enO l) 0 = some ((lkI eqBA a l 0).map fun x => (x.1, PV.val (.bool true))) := findPV_lkI (ev := fun _ => PV.val (.bool true)) eq_str a l 0
theorem find_nam (a : ByteArray) (l : List (ByteArray × ByteArray)) : findPV Tryz.prog 9 (pvB a) (enN l) 0 = some ((lkI eqBA a l 0).map fun x => (x.1, pvB x.2)) := findPV_lkI (ev := pvB) eq_str a l 0

def turnB (b : Bst) (s : ByteArray) (on : Bool) : Int × Bst :=
  if isWordB s = false then (1, b) else
  if on = true then (0, { b with off := delK eqBA s b.off }) else
  match lkI eqBA s b.off 0 with
  | none => if b.off.length ≥ 30 then (3, b) else (0, { b with off := setK eqBA s () b.off })
  | some _ => (0, { b with off := setK eqBA s () b.off })

theorem Turn_ok (hw : IsW 66) (b : Bst) (s : ByteArray) (on : Bool) (hz : (s.size : Int) ≤ 2000000) (hb : (b.off.length : Int) ≤ 1000) :
    CallOk Tryz.prog 35 [.ptr 0 0, vS s, vB on] (bs b) fun r' st' => r' = vI .i64 (turnB b s on).1 ∧ st' = bs (turnB b s on).2 := by
  refine callOkD_of false 7 Tryz.func35 rfl rfl (Nat.le_refl _) ?_
  refine handD_region ?_
  conv => whnf
  refine handD_region ?_
  conv => whnf
  refine CallIn.o [0, 1, 2, 3, 4, 5, 6] (enter_ok b.k) (k := ?_)
  rintro r st' ⟨rfl, rfl⟩
  conv => whnf
  refine handD_defer (pre := [_]) rfl rfl rfl rfl rfl rfl rfl ?_
  conv => whnf
  repeat (first | (refine rest_vc ?_; conv => whnf) | (refine ⟨by decide, ?_⟩; conv => whnf))
  refine ⟨_, rfl, rfl, ?_⟩
  refine rest_vc ?_
  conv => whnf
  repeat (first | (refine rest_vc ?_; conv => whnf) | (refine ⟨by decide, ?_⟩; conv => whnf))
  refine CallIn.tob ((hw s hz)) (k := ?_)
  intro b h1
  cases b <;> (conv => whnf) <;> repeat (first | (refine rest_vc ?_; conv => whnf) | (refine ⟨by decide, ?_⟩; conv => whnf))
  · have he : turnB b s on = (1, b) := by unfold turnB; rw [if_pos h1]
    refine unlockD (P' := b.k) rfl ?_
    conv => whnf
    repeat (first | (refine rest_vc ?_; conv => whnf) | (refine ⟨by decide, ?_⟩; conv => whnf))
    exact ⟨congrArg (vI .i64) (by rw [he]), congrArg bs (by rw [he])⟩
  · have h1' : ¬ isWordB s = false := by simp [h1]
    cases on with
    | true =>
      conv => whnf
      repeat (first | (refine rest_vc ?_; conv => whnf) | (refine ⟨by decide, ?_⟩; conv => whnf))
      have he : turnB b s true = (0, { b with off := delK eqBA s b.off }) := by unfold turnB; rw [if_neg h1', if_pos rfl]
      refine ⟨_, find_off s b.off, ?_⟩
      conv => whnf
      repeat (first | (refine rest_vc ?_; conv => whnf) | (refine ⟨by decide, ?_⟩; conv => whnf))
      have e1 : delPV (enO b.off) ((lkI eqBA s b.off 0).map fun x => (x.1, PV.val (.bool true))) = enO (delK eqBA s b.off) := by
        unfold delK delPV
        cases lkI eqBA s b.off 0 with
        | none => rfl
        | some x => exact eraseIdx_map _ _ _
      refine unlockD (P' := { b.k with off := delPV (enO b.off) ((lkI eqBA s b.off 0).map fun x => (x.1, PV.val (.bool true))) }) rfl ?_
      conv => whnf
      repeat (first | (refine rest_vc ?_; conv => whnf) | (refine ⟨by decide, ?_⟩; conv => whnf))
      refine ⟨congrArg (vI .i64) (by rw [he]), ?_⟩
      rw [he]
      show bk 0 { b.k with off := delPV (enO b.off) ((lkI eqBA s b.off 0).map fun x => (x.1, PV.val (.bool true))) } = _
      rw [e1]; rfl
    | false =>
      conv => whnf
      repeat (first | (refine rest_vc ?_; conv => whnf) | (refine ⟨by decide, ?_⟩; conv => whnf))
      refine ⟨_, find_off s b.off, ?_⟩
      have hp := setPV_setK (ek := pvB) (ev := fun _ => PV.val (.bool true)) (eq := eqBA) s () b.off
      generalize hk : lkI eqBA s b.off 0 = x at hp
      cases x with
      | none =>
        conv => whnf
        repeat (first | (refine rest_vc ?_; conv => whnf) | (refine ⟨by decide, ?_⟩; conv => whnf))
        split <;> rename_i h2 <;> (conv => whnf) <;> repeat (first | (refine rest_vc ?_; conv => whnf) | (refine ⟨by decide, ?_⟩; conv => whnf))
        · have hl : b.off.length ≥ 30 := by
            have : ((enO b.off).length : Int) ≥ 30 := of_decide_eq_true h2
            rw [List.length_map] at this
            omega
          have he : turnB b s false = (3, b) := by unfold turnB; rw [if_neg h1', if_neg (by decide), hk]; simp only; rw [if_pos hl]
          refine unlockD (P' := b.k) rfl ?_
          conv => whnf
          repeat (first | (refine rest_vc ?_; conv => whnf) | (refine ⟨by decide, ?_⟩; conv => whnf))
          exact ⟨congrArg (vI .i64) (by rw [he]), congrArg bs (by rw [he])⟩
        · have hl : ¬ b.off.length ≥ 30 := by
            have : ¬ ((enO b.off).length : Int) ≥ 30 := of_decide_eq_false h2
            rw [List.length_map] at this
            omega
          have he : turnB b s false = (0, { b with off := setK eqBA s () b.off }) := by unfold turnB; rw [if_neg h1', if_neg (by decide), hk]; simp only; rw [if_neg hl]
          refine ⟨_, find_off s b.off, ?_⟩
          rw [hk]
          conv => whnf
          repeat (first | (refine rest_vc ?_; conv => whnf) | (refine ⟨by decide, ?_⟩; conv => whnf))
          refine unlockD (P' := { b.k with off := setPV (enO b.off) (pvB s) (.val (.bool true)) none }) rfl ?_
          conv => whnf
          repeat (first | (refine rest_vc ?_; conv => whnf) | (refine ⟨by decide, ?_⟩; conv => whnf))
          refine ⟨congrArg (vI .i64) (by rw [he]), ?_⟩
          rw [he]
          show bk 0 { b.k with off := setPV (enO b.off) (pvB s) (.val (.bool true)) none } = _
          rw [show setPV (enO b.off) (pvB s) (.val (.bool true)) none = _ from hp]; rfl
      | some x =>
        conv => whnf
        repeat (first | (refine rest_vc ?_; conv => whnf) | (refine ⟨by decide, ?_⟩; conv => whnf))
        have he : turnB b s false = (0, { b with off := setK eqBA s () b.off }) := by unfold turnB; rw [if_neg h1', if_neg (by decide), hk]
        refine ⟨_, find_off s b.off, ?_⟩
        rw [hk]
        conv => whnf
        repeat (first | (refine rest_vc ?_; conv => whnf) | (refine ⟨by decide, ?_⟩; conv => whnf))
        refine unlockD (P' := { b.k with off := setPV (enO b.off) (pvB s) (.val (.bool true)) (some (x.1, .val (.bool true))) }) rfl ?_
        conv => whnf
        repeat (first | (refine rest_vc ?_; conv => whnf) | (refine ⟨by decide, ?_⟩; conv => whnf))
        refine ⟨congrArg (vI .i64) (by rw [he]), ?_⟩
        rw [he]
        show bk 0 { b.k with off := setPV (enO b.off) (pvB s) (.val (.bool true)) (some (x.1, .val (.bool true))) } = _
        rw [show setPV (enO b.off) (pvB s) (.val (.bool true)) (some (x.1, .val (.bool true))) = _ from hp]; rfl

end Go.Proofs.YtafngalmkblipaaGreatDoor
/- law10: names of addresses. -/
set_option linter.all false
set_option maxHeartbeats 4000000
set_option maxRecDepth 100000
namespace Go.Proofs.YtafngalmkblipaaGreatDoor
open Go Go.RowKit Go.Sy Go.Proofs

def badC (c : Int) : Bool := decide (c < 33) || decide (c > 126)
theorem badC_ok (c : Int) : CallOk Tryz.prog 96 [vI .u8 c] [] fun r st' => st' = [] ∧ r = vB (badC c) := by
  refine callOk_of true 0 Tryz.func96 rfl rfl (Nat.le_refl _) ?_
  conv => whnf
  repeat (first | (refine rest_vc ?_; conv => whnf) | (refine ⟨by decide, ?_⟩; conv => whnf))
  split <;> rename_i h <;> (conv => whnf) <;> repeat (first | (refine rest_vc ?_; conv => whnf) | (refine ⟨by decide, ?_⟩; conv => whnf))
  · exact ⟨rfl, congrArg vB (by unfold badC; rw [h]; rfl)⟩
  · split <;> rename_i h2 <;> (conv => whnf) <;> repeat (first | (refine rest_vc ?_; conv => whnf) | (refine ⟨by decide, ?_⟩; conv => whnf))
    · exact ⟨rfl, congrArg vB (by unfold badC; rw [h, h2]; rfl)⟩
    · exact ⟨rfl, congrArg vB (by unfold badC; rw [h, h2]; rfl)⟩

theorem badIx_ok (nl : Bool) (l : List Int) (hl : (l.length : Int) ≤ 2000000) : CallOk Tryz.prog 118 [bts nl l, .pure (.val (.func (.func 96) #[] #[]))] [] fun r st' => st' = [] ∧ r = vI .i64 (fstI badC l 0) := by
  refine callOk_of true 0 Tryz.func118 rfl rfl (Nat.le_refl _) ?_
  conv => whnf
  repeat (first | (refine rest_vc ?_; conv => whnf) | (refine ⟨by decide, ?_⟩; conv => whnf))
  intro _
  conv => whnf
  repeat (first | (refine rest_vc ?_; conv => whnf) | (refine ⟨by decide, ?_⟩; conv => whnf))
  refine awp_loop (n := 19) (α := Nat) (fun i => i ≤ l.length ∧ fstI badC (l.drop i) i = fstI badC l 0) (fun i => [(0, bts nl l), (1, .pure (.val (.func (.func 96) #[] #[]))), (7, vI .i64 (l.length : Nat)), (8, vI .i64 i)])
    (fun _ => []) (fun i => l.length - i) 0 (fun _ => 0)
    ⟨Nat.zero_le _, rfl⟩ rfl ⟨rfl, rfl, congrArg (vI .i64) (by rw [u8s_len]), rfl, trivial⟩ rfl (fun _ _ => rfl) (fun _ => ⟨Nat.le_refl _, rfl, rfl⟩) ?_
  rintro i ⟨hi, hc⟩
  conv => whnf
  repeat (first | (refine rest_vc ?_; conv => whnf) | (refine ⟨by decide, ?_⟩; conv => whnf))
  split <;> rename_i h <;> (conv => whnf) <;> repeat (first | (refine rest_vc ?_; conv => whnf) | (refine ⟨by decide, ?_⟩; conv => whnf))
  · have h := of_decide_eq_true h
    have hlt : i < l.length := by omega
    refine ⟨by rw [u8s_len]; omega, fun p hp => ?_⟩
    obtain ⟨rfl, _⟩ := u8s_get hp
    have hq : l[i]? = some (l.getD i 0) := by rw [List.getD_eq_getElem?_getD, List.getElem?_eq_getElem hlt]; rfl
    conv => whnf
    repeat (first | (refine rest_vc ?_; conv => whnf) | (refine ⟨by decide, ?_⟩; conv => whnf))
    refine CallIn.tob ((badC_ok (l.getD i 0))) (k := ?_)
    intro b h2
    cases b <;> (conv => whnf) <;> repeat (first | (refine rest_vc ?_; conv => whnf) | (refine ⟨by decide, ?_⟩; conv => whnf))
    · refine ⟨i + 1, fun _ => 0, ⟨hlt, ?_⟩, ?_, rfl, ⟨rfl, rfl, rfl, congrArg (vI .i64) ?_, trivial⟩, rfl, fun _ _ => rfl⟩
      · rw [← hc, fstI_at hq, if_neg (by rw [h2]; decide)]
      · omega
      · rw [w64 (by omega) (by omega)]; omega
    · exact ⟨rfl, congrArg (vI .i64) (by rw [← hc, fstI_at hq, if_pos h2])⟩
  · have h := of_decide_eq_false h
    exact ⟨rfl, congrArg (vI .i64) (by rw [← hc, fstI_end (by omega)])⟩

theorem badAny_ok (nl : Bool) (l : List Int) (hl : (l.length : Int) ≤ 2000000) : CallOk Tryz.prog 95 [bts nl l, .pure (.val (.func (.func 96) #[] #[]))] [] fun r st' => st' = [] ∧ r = vB (decide (0 ≤ fstI badC l 0)) := by
  refine callOk_of true 0 Tryz.func95 rfl rfl (Nat.le_refl _) ?_
  conv => whnf
  repeat (first | (refine rest_vc ?_; conv => whnf) | (refine ⟨by decide, ?_⟩; conv => whnf))
  refine CallIn.to (badIx_ok nl l hl) (k := ?_)
  conv => whnf
  repeat (first | (refine rest_vc ?_; conv => whnf) | (refine ⟨by decide, ?_⟩; conv => whnf))
  split <;> rename_i h <;> (conv => whnf) <;> repeat (first | (refine rest_vc ?_; conv => whnf) | (refine ⟨by decide, ?_⟩; conv => whnf))
  · exact ⟨rfl, congrArg vB h.symm⟩
  · exact ⟨rfl, congrArg vB h.symm⟩

structure Nm where
  nl : Bool
  a : List Int
  x : ByteArray
def pvN (n : Nm) : PV := .agg [.list 1 n.nl (u8s n.a), .val (.string n.x)]
def byS (x : ByteArray) : List Int := x.data.toList.map fun c => (c.toNat : Int)
theorem byS_len (x : ByteArray) : (byS x).length = x.size := by unfold byS; rw [List.length_map]; rfl
theorem u8s_byS (x : ByteArray) : u8s (byS x) = x.data.toList.map fun c => PV.val (.int .u8 c.toNat) := by simp [u8s, byS]
def sizeBad (n : Nm) : Bool := ((decide ((n.a.length : Int) < 1) || decide ((n.a.length : Int) > 16)) || decide ((n.x.size : Int) < 1)) || decide ((n.x.size : Int) > 40)
def isNameB (n : Nm) : Bool := !sizeBad n && !decide (0 ≤ fstI badC (byS n.x) 0)

theorem isName_ok (n : Nm) (ha : (n.a.length : Int) ≤ 2000000) (hx : (n.x.size : Int) ≤ 2000000) : CallOk Tryz.prog 73 [.pure (pvN n)] [] fun r st' => st' = [] ∧ r = vB (isNameB n) := by
  have hl : ((u8s n.a).length : Int) = n.a.length := by rw [u8s_len]
  have bad : sizeBad n = true → vB false = vB (isNameB n) := fun h => congrArg vB (by unfold isNameB; rw [h]; rfl)
  refine callOk_of true 0 Tryz.func73 rfl rfl (Nat.le_refl _) ?_
  conv => whnf
  repeat (first | (refine rest_vc ?_; conv => whnf) | (refine ⟨by decide, ?_⟩; conv => whnf))
  intro _
  conv => whnf
  repeat (first | (refine rest_vc ?_; conv => whnf) | (refine ⟨by decide, ?_⟩; conv => whnf))
  split <;> rename_i h1 <;> (conv => whnf) <;> repeat (first | (refine rest_vc ?_; conv => whnf) | (refine ⟨by decide, ?_⟩; conv => whnf))
  · exact ⟨rfl, bad (by rw [hl] at h1; unfold sizeBad; rw [h1]; rfl)⟩
  · intro _
    conv => whnf
    repeat (first | (refine rest_vc ?_; conv => whnf) | (refine ⟨by decide, ?_⟩; conv => whnf))
    split <;> rename_i h2 <;> (conv => whnf) <;> repeat (first | (refine rest_vc ?_; conv => whnf) | (refine ⟨by decide, ?_⟩; conv => whnf))
    · exact ⟨rfl, bad (by rw [hl] at h2; unfold sizeBad; rw [h2]; simp)⟩
    · split <;> rename_i h3 <;> (conv => whnf) <;> repeat (first | (refine rest_vc ?_; conv => whnf) | (refine ⟨by decide, ?_⟩; conv => whnf))
      · exact ⟨rfl, bad (by unfold sizeBad; rw [h3]; simp)⟩
      · split <;> rename_i h4 <;> (conv => whnf) <;> repeat (first | (refine rest_vc ?_; conv => whnf) | (refine ⟨by decide, ?_⟩; conv => whnf))
        · exact ⟨rfl, bad (by unfold sizeBad; rw [h4]; simp)⟩
        · refine ⟨by (have := of_decide_eq_false h4; omega), ?_⟩
          conv => whnf
          repeat (first | (refine rest_vc ?_; conv => whnf) | (refine ⟨by decide, ?_⟩; conv => whnf))
          have hg : sizeBad n = false := by rw [hl] at h1 h2; unfold sizeBad; rw [h1, h2, h3, h4]; rfl
          have hc := badAny_ok false (byS n.x) (by rw [byS_len]; exact hx)
          unfold bts at hc
          rw [u8s_byS] at hc
          refine CallIn.tob (hc) (k := ?_)
          intro b h5
          cases b <;> (conv => whnf) <;> repeat (first | (refine rest_vc ?_; conv => whnf) | (refine ⟨by decide, ?_⟩; conv => whnf))
          · exact ⟨rfl, congrArg vB (by unfold isNameB; rw [hg, h5]; rfl)⟩
          · exact ⟨rfl, congrArg vB (by unfold isNameB; rw [hg, h5]; rfl)⟩

theorem convN_any {nl : Bool} {l : List Int} : ∃ l' : List Int, u8s l = l'.map fun n => PV.val (.int .u8 n) := ⟨l, rfl⟩
theorem u8s_inj : ∀ {l l' : List Int}, u8s l = l'.map (fun n => PV.val (.int .u8 n)) → l = l'
  | [], [], _ => rfl
  | [], _ :: _, h => by cases h
  | _ :: _, [], h => by cases h
  | x :: l, y :: l', h => by
    simp only [u8s, List.map_cons, List.cons.injEq, PV.val.injEq, Value.int.injEq, true_and] at h
    rw [h.1, u8s_inj h.2]

abbrev keyN (n : Nm) : ByteArray := strOfNums n.a
def nameB (b : Bst) (n : Nm) : Int × Bst :=
  if isNameB n = false then (1, b) else
  match lkI eqBA (keyN n) b.names 0 with
  | none => if b.names.length ≥ 60 then (3, b) else (0, { b with names := setK eqBA (keyN n) n.x b.names })
  | some _ => (0, { b with names := setK eqBA (keyN n) n.x b.names })

theorem Name_ok (b : Bst) (n : Nm) (ha : (n.a.length : Int) ≤ 2000000) (hx : (n.x.size : Int) ≤ 2000000) :
    CallOk Tryz.prog 37 [.ptr 0 0, .pure (pvN n)] (bs b) fun r' st' => r' = vI .i64 (nameB b n).1 ∧ st' = bs (nameB b n).2 := by
  refine callOkD_of false 7 Tryz.func37 rfl rfl (Nat.le_refl _) ?_
  refine handD_region ?_
  conv => whnf
  refine handD_region ?_
  conv => whnf
  refine CallIn.o [0, 1, 2, 3, 4, 5, 6] (enter_ok b.k) (k := ?_)
  rintro r st' ⟨rfl, rfl⟩
  conv => whnf
  refine handD_defer (pre := [_]) rfl rfl rfl rfl rfl rfl rfl ?_
  conv => whnf
  repeat (first | (refine rest_vc ?_; conv => whnf) | (refine ⟨by decide, ?_⟩; conv => whnf))
  refine ⟨_, rfl, rfl, ?_⟩
  refine rest_vc ?_
  conv => whnf
  repeat (first | (refine rest_vc ?_; conv => whnf) | (refine ⟨by decide, ?_⟩; conv => whnf))
  refine hand_draw [] (fun _ _ => True) rfl (by kernel_rfl) rfl ?_
  conv => whnf
  repeat (first | (refine rest_vc ?_; conv => whnf) | (refine ⟨by decide, ?_⟩; conv => whnf))
  refine ⟨⟨n.a, rfl⟩, fun l hl => ?_⟩
  obtain rfl := u8s_inj hl
  conv => whnf
  repeat (first | (refine rest_vc ?_; conv => whnf) | (refine ⟨by decide, ?_⟩; conv => whnf))
  refine ⟨_, find_nam (keyN n) b.names, ?_⟩
  have hp := setPV_setK (ek := pvB) (ev := pvB) (eq := eqBA) (keyN n) n.x b.names
  generalize hk : lkI eqBA (keyN n) b.names 0 = x at hp
  have hbad : isNameB n = false → nameB b n = (1, b) := fun h1 => by unfold nameB; rw [if_pos h1]
  cases x with
  | none =>
    conv => whnf
    repeat (first | (refine rest_vc ?_; conv => whnf) | (refine ⟨by decide, ?_⟩; conv => whnf))
    refine CallIn.tob ((isName_ok n ha hx)) (k := ?_)
    intro b h1
    cases b <;> (conv => whnf) <;> repeat (first | (refine rest_vc ?_; conv => whnf) | (refine ⟨by decide, ?_⟩; conv => whnf))
    · refine unlockD (P' := b.k) rfl ?_
      conv => whnf
      repeat (first | (refine rest_vc ?_; conv => whnf) | (refine ⟨by decide, ?_⟩; conv => whnf))
      exact ⟨congrArg (vI .i64) (by rw [hbad h1]), congrArg bs (by rw [hbad h1])⟩
    · have h1' : ¬ isNameB n = false := by simp [h1]
      split <;> rename_i h2 <;> (conv => whnf) <;> repeat (first | (refine rest_vc ?_; conv => whnf) | (refine ⟨by decide, ?_⟩; conv => whnf))
      · have hl : b.names.length ≥ 60 := by
          have : ((enN b.names).length : Int) ≥ 60 := of_decide_eq_true h2
          rw [List.length_map] at this
          omega
        have he : nameB b n = (3, b) := by unfold nameB; rw [if_neg h1', hk]; simp only; rw [if_pos hl]
        refine unlockD (P' := b.k) rfl ?_
        conv => whnf
        repeat (first | (refine rest_vc ?_; conv => whnf) | (refine ⟨by decide, ?_⟩; conv => whnf))
        exact ⟨congrArg (vI .i64) (by rw [he]), congrArg bs (by rw [he])⟩
      · have hl : ¬ b.names.length ≥ 60 := by
          have : ¬ ((enN b.names).length : Int) ≥ 60 := of_decide_eq_false h2
          rw [List.length_map] at this
          omega
        have he : nameB b n = (0, { b with names := setK eqBA (keyN n) n.x b.names }) := by unfold nameB; rw [if_neg h1', hk]; simp only; rw [if_neg hl]
        refine hand_draw [10] (fun _ _ => True) rfl (by kernel_rfl) rfl ?_
        conv => whnf
        repeat (first | (refine rest_vc ?_; conv => whnf) | (refine ⟨by decide, ?_⟩; conv => whnf))
        refine ⟨⟨n.a, rfl⟩, fun l hl => ?_⟩
        obtain rfl := u8s_inj hl
        conv => whnf
        repeat (first | (refine rest_vc ?_; conv => whnf) | (refine ⟨by decide, ?_⟩; conv => whnf))
        refine ⟨_, find_nam (keyN n) b.names, ?_⟩
        rw [hk]
        conv => whnf
        repeat (first | (refine rest_vc ?_; conv => whnf) | (refine ⟨by decide, ?_⟩; conv => whnf))
        refine unlockD (P' := { b.k with names := setPV (enN b.names) (pvB (keyN n)) (pvB n.x) none }) rfl ?_
        conv => whnf
        repeat (first | (refine rest_vc ?_; conv => whnf) | (refine ⟨by decide, ?_⟩; conv => whnf))
        refine ⟨congrArg (vI .i64) (by rw [he]), ?_⟩
        rw [he]
        show bk 0 { b.k with names := setPV (enN b.names) (pvB (keyN n)) (pvB n.x) none } = _
        rw [show setPV (enN b.names) (pvB (keyN n)) (pvB n.x) none = _ from hp]; rfl
  | some x =>
    conv => whnf
    repeat (first | (refine rest_vc ?_; conv => whnf) | (refine ⟨by decide, ?_⟩; conv => whnf))
    refine CallIn.tob ((isName_ok n ha hx)) (k := ?_)
    intro b h1
    cases b <;> (conv => whnf) <;> repeat (first | (refine rest_vc ?_; conv => whnf) | (refine ⟨by decide, ?_⟩; conv => whnf))
    · refine unlockD (P' := b.k) rfl ?_
      conv => whnf
      repeat (first | (refine rest_vc ?_; conv => whnf) | (refine ⟨by decide, ?_⟩; conv => whnf))
      exact ⟨congrArg (vI .i64) (by rw [hbad h1]), congrArg bs (by rw [hbad h1])⟩
    · have h1' : ¬ isNameB n = false := by simp [h1]
      have he : nameB b n = (0, { b with names := setK eqBA (keyN n) n.x b.names }) := by unfold nameB; rw [if_neg h1', hk]
      refine hand_draw [10] (fun _ _ => True) rfl (by kernel_rfl) rfl ?_
      conv => whnf
      repeat (first | (refine rest_vc ?_; conv => whnf) | (refine ⟨by decide, ?_⟩; conv => whnf))
      refine ⟨⟨n.a, rfl⟩, fun l hl => ?_⟩
      obtain rfl := u8s_inj hl
      conv => whnf
      repeat (first | (refine rest_vc ?_; conv => whnf) | (refine ⟨by decide, ?_⟩; conv => whnf))
      refine ⟨_, find_nam (keyN n) b.names, ?_⟩
      rw [hk]
      conv => whnf
      repeat (first | (refine rest_vc ?_; conv => whnf) | (refine ⟨by decide, ?_⟩; conv => whnf))
      refine unlockD (P' := { b.k with names := setPV (enN b.names) (pvB (keyN n)) (pvB n.x) (some (x.1, pvB x.2)) }) rfl ?_
      conv => whnf
      repeat (first | (refine rest_vc ?_; conv => whnf) | (refine ⟨by decide, ?_⟩; conv => whnf))
      refine ⟨congrArg (vI .i64) (by rw [he]), ?_⟩
      rw [he]
      show bk 0 { b.k with names := setPV (enN b.names) (pvB (keyN n)) (pvB n.x) (some (x.1, pvB x.2)) } = _
      rw [show setPV (enN b.names) (pvB (keyN n)) (pvB n.x) (some (x.1, pvB x.2)) = _ from hp]; rfl

end Go.Proofs.YtafngalmkblipaaGreatDoor
/- law10: which protocol two ports have. -/
set_option linter.all false
set_option maxHeartbeats 4000000
set_option maxRecDepth 100000
namespace Go.Proofs.YtafngalmkblipaaGreatDoor
open Go Go.RowKit Go.Sy Go.Proofs

def isOff (b : Bst) (p : ByteArray) : Bool := (lkI eqBA p b.off 0).isSome
/-- What a table has at a place, if it is not off. -/
def of1 (b : Bst) (l : List (Spot × ByteArray)) (a : Spot) : Option ByteArray :=
  match lkI eqSp a l 0 with
  | some x => if isOff b x.2 then none else some x.2
  | none => none
abbrev noS : ByteArray := ByteArray.empty
def optR (o : Option ByteArray) : ByteArray × Bool := match o with | some p => (p, true) | none => (noS, false)
def ofB (b : Bst) (a : Spot) : Option ByteArray := match of1 b b.rules a with | some p => some p | none => of1 b b.asked a
abbrev stA (b : BkP) : SV := .agg [.vref 0 b.vr, .mref 1, .mref 2, .vref 3 b.vp, .mref 4, .mref 5]
abbrev optT (o : Option ByteArray) : SV := .tup [vS (optR o).1, vB (optR o).2]

theorem of_ok (b : Bst) (t : ByteArray) (k : Int) : CallOk Tryz.prog 43 [stA b.k, vS t, vI .i64 k] (bkT b.k) fun r st' => r = optT (ofB b (t, k)) ∧ st' = bkT b.k := by
  refine callOk_of false 6 Tryz.func43 rfl rfl (Nat.le_refl _) ?_
  conv => whnf
  repeat (first | (refine rest_vc ?_; conv => whnf) | (refine ⟨by decide, ?_⟩; conv => whnf))
  refine awp_loop (n := 40) (α := Nat) (fun i => i = 0 ∨ (i = 1 ∧ of1 b b.rules (t, k) = none) ∨ (i = 2 ∧ of1 b b.rules (t, k) = none ∧ of1 b b.asked (t, k) = none))
    (fun i => [(1, vS t), (2, vI .i64 k), (3, .ptr 6 0), (6, vS noS), (7, vB false), (16, .sref 7 0 2), (17, vI .i64 2), (18, vI .i64 i)])
    (fun _ => bkT b.k ++ [.cells 65 [.vref 0 b.k.vr, .mref 1, .mref 2, .vref 3 b.k.vp, .mref 4, .mref 5], .cells 60 [.mref 2, .mref 1]]) (fun i => 2 - i) 0 (fun _ => 0)
    (.inl rfl) rfl ⟨rfl, rfl, rfl, rfl, rfl, rfl, rfl, rfl, trivial⟩ rfl (fun _ _ => rfl) (fun _ => ⟨(by show 6 ≤ 8; omega), rfl, rfl⟩) ?_
  rintro i (rfl | ⟨rfl, h1⟩ | ⟨rfl, h1, h2⟩)
  · conv => whnf
    repeat (first | (refine rest_vc ?_; conv => whnf) | (refine ⟨by decide, ?_⟩; conv => whnf))
    refine must_iff.2 ⟨some_spot (t, k), ?_⟩
    conv => whnf
    repeat (first | (refine rest_vc ?_; conv => whnf) | (refine ⟨by decide, ?_⟩; conv => whnf))
    refine ⟨_, find_spot (t, k) b.rules, ?_⟩
    generalize hk : lkI eqSp (t, k) b.rules 0 = x
    cases x with
    | none =>
      have e1 : of1 b b.rules (t, k) = none := by unfold of1; rw [hk]
      conv => whnf
      repeat (first | (refine rest_vc ?_; conv => whnf) | (refine ⟨by decide, ?_⟩; conv => whnf))
      exact ⟨1, fun _ => 0, .inr (.inl ⟨rfl, e1⟩), by decide, rfl, ⟨rfl, rfl, rfl, rfl, rfl, rfl, rfl, rfl, trivial⟩, rfl, fun _ _ => rfl⟩
    | some x =>
      conv => whnf
      repeat (first | (refine rest_vc ?_; conv => whnf) | (refine ⟨by decide, ?_⟩; conv => whnf))
      refine ⟨_, find_off x.2 b.off, ?_⟩
      generalize hy : lkI eqBA x.2 b.off 0 = y
      cases y with
      | none =>
        have e1 : of1 b b.rules (t, k) = some x.2 := by simp [of1, isOff, hk, hy]
        conv => whnf
        repeat (first | (refine rest_vc ?_; conv => whnf) | (refine ⟨by decide, ?_⟩; conv => whnf))
        exact ⟨by unfold ofB; rw [e1]; rfl, rfl⟩
      | some y =>
        have e1 : of1 b b.rules (t, k) = none := by simp [of1, isOff, hk, hy]
        conv => whnf
        repeat (first | (refine rest_vc ?_; conv => whnf) | (refine ⟨by decide, ?_⟩; conv => whnf))
        exact ⟨1, fun _ => 0, .inr (.inl ⟨rfl, e1⟩), by decide, rfl, ⟨rfl, rfl, rfl, rfl, rfl, rfl, rfl, rfl, trivial⟩, rfl, fun _ _ => rfl⟩
  · conv => whnf
    repeat (first | (refine rest_vc ?_; conv => whnf) | (refine ⟨by decide, ?_⟩; conv => whnf))
    refine must_iff.2 ⟨some_spot (t, k), ?_⟩
    conv => whnf
    repeat (first | (refine rest_vc ?_; conv => whnf) | (refine ⟨by decide, ?_⟩; conv => whnf))
    refine ⟨_, find_spot (t, k) b.asked, ?_⟩
    generalize hk : lkI eqSp (t, k) b.asked 0 = x
    cases x with
    | none =>
      have e1 : of1 b b.asked (t, k) = none := by unfold of1; rw [hk]
      conv => whnf
      repeat (first | (refine rest_vc ?_; conv => whnf) | (refine ⟨by decide, ?_⟩; conv => whnf))
      exact ⟨2, fun _ => 0, .inr (.inr ⟨rfl, h1, e1⟩), by decide, rfl, ⟨rfl, rfl, rfl, rfl, rfl, rfl, rfl, rfl, trivial⟩, rfl, fun _ _ => rfl⟩
    | some x =>
      conv => whnf
      repeat (first | (refine rest_vc ?_; conv => whnf) | (refine ⟨by decide, ?_⟩; conv => whnf))
      refine ⟨_, find_off x.2 b.off, ?_⟩
      generalize hy : lkI eqBA x.2 b.off 0 = y
      cases y with
      | none =>
        have e1 : of1 b b.asked (t, k) = some x.2 := by simp [of1, isOff, hk, hy]
        conv => whnf
        repeat (first | (refine rest_vc ?_; conv => whnf) | (refine ⟨by decide, ?_⟩; conv => whnf))
        exact ⟨by unfold ofB; rw [h1, e1]; rfl, rfl⟩
      | some y =>
        have e1 : of1 b b.asked (t, k) = none := by simp [of1, isOff, hk, hy]
        conv => whnf
        repeat (first | (refine rest_vc ?_; conv => whnf) | (refine ⟨by decide, ?_⟩; conv => whnf))
        exact ⟨2, fun _ => 0, .inr (.inr ⟨rfl, h1, e1⟩), by decide, rfl, ⟨rfl, rfl, rfl, rfl, rfl, rfl, rfl, rfl, trivial⟩, rfl, fun _ _ => rfl⟩
  · conv => whnf
    repeat (first | (refine rest_vc ?_; conv => whnf) | (refine ⟨by decide, ?_⟩; conv => whnf))
    exact ⟨by unfold ofB; rw [h1, h2]; rfl, rfl⟩

/-- The first one of some places that has one. -/
def firB (b : Bst) (t : ByteArray) (k l : Int) : Option ByteArray := match ofB b (t, k) with | some p => some p | none => ofB b (t, l)
theorem first_ok (b : Bst) (t : ByteArray) (k l : Int) : CallOk Tryz.prog 42 [stA b.k, vS t, .pure (.list 1 false [.val (.int .i64 k), .val (.int .i64 l)])] (bkT b.k) fun r st' => r = optT (firB b t k l) ∧ st' = bkT b.k := by
  refine callOk_of false 6 Tryz.func42 rfl rfl (Nat.le_refl _) ?_
  conv => whnf
  repeat (first | (refine rest_vc ?_; conv => whnf) | (refine ⟨by decide, ?_⟩; conv => whnf))
  intro _
  conv => whnf
  repeat (first | (refine rest_vc ?_; conv => whnf) | (refine ⟨by decide, ?_⟩; conv => whnf))
  refine awp_loop (n := 28) (α := Nat) (fun i => i = 0 ∨ (i = 1 ∧ ofB b (t, k) = none) ∨ (i = 2 ∧ ofB b (t, k) = none ∧ ofB b (t, l) = none))
    (fun i => [(1, vS t), (3, .ptr 6 0), (6, vS noS), (7, vB false), (12, .pure (.list 1 false [.val (.int .i64 k), .val (.int .i64 l)])), (13, vI .i64 2), (14, vI .i64 i)])
    (fun _ => bkT b.k ++ [.cells 65 [.vref 0 b.k.vr, .mref 1, .mref 2, .vref 3 b.k.vp, .mref 4, .mref 5]]) (fun i => 2 - i) 0 (fun _ => 0)
    (.inl rfl) rfl ⟨rfl, rfl, rfl, rfl, rfl, rfl, rfl, trivial⟩ rfl (fun _ _ => rfl) (fun _ => ⟨(by show 6 ≤ 7; omega), rfl, rfl⟩) ?_
  rintro i (rfl | ⟨rfl, h1⟩ | ⟨rfl, h1, h2⟩)
  · conv => whnf
    repeat (first | (refine rest_vc ?_; conv => whnf) | (refine ⟨by decide, ?_⟩; conv => whnf))
    refine ⟨⟨by decide, by show _ < (2 : Int); decide⟩, fun p hp => ?_⟩
    obtain rfl : PV.val (.int .i64 k) = p := Option.some.inj hp
    conv => whnf
    repeat (first | (refine rest_vc ?_; conv => whnf) | (refine ⟨by decide, ?_⟩; conv => whnf))
    refine CallIn.o [0, 1, 2, 3, 4, 5] (of_ok b t k) (k := ?_)
    rintro r st' ⟨rfl, rfl⟩
    conv => whnf
    repeat (first | (refine rest_vc ?_; conv => whnf) | (refine ⟨by decide, ?_⟩; conv => whnf))
    generalize hk : ofB b (t, k) = x
    cases x with
    | none =>
      conv => whnf
      repeat (first | (refine rest_vc ?_; conv => whnf) | (refine ⟨by decide, ?_⟩; conv => whnf))
      exact ⟨1, fun _ => 0, .inr (.inl ⟨rfl, rfl⟩), by decide, rfl, ⟨rfl, rfl, rfl, rfl, rfl, rfl, rfl, trivial⟩, rfl, fun _ _ => rfl⟩
    | some x =>
      conv => whnf
      repeat (first | (refine rest_vc ?_; conv => whnf) | (refine ⟨by decide, ?_⟩; conv => whnf))
      exact ⟨by unfold firB; rw [hk]; rfl, rfl⟩
  · conv => whnf
    repeat (first | (refine rest_vc ?_; conv => whnf) | (refine ⟨by decide, ?_⟩; conv => whnf))
    refine ⟨⟨by decide, by show _ < (2 : Int); decide⟩, fun p hp => ?_⟩
    obtain rfl : PV.val (.int .i64 l) = p := Option.some.inj hp
    conv => whnf
    repeat (first | (refine rest_vc ?_; conv => whnf) | (refine ⟨by decide, ?_⟩; conv => whnf))
    refine CallIn.o [0, 1, 2, 3, 4, 5] (of_ok b t l) (k := ?_)
    rintro r st' ⟨rfl, rfl⟩
    conv => whnf
    repeat (first | (refine rest_vc ?_; conv => whnf) | (refine ⟨by decide, ?_⟩; conv => whnf))
    generalize hk : ofB b (t, l) = x
    cases x with
    | none =>
      conv => whnf
      repeat (first | (refine rest_vc ?_; conv => whnf) | (refine ⟨by decide, ?_⟩; conv => whnf))
      exact ⟨2, fun _ => 0, .inr (.inr ⟨rfl, h1, rfl⟩), by decide, rfl, ⟨rfl, rfl, rfl, rfl, rfl, rfl, rfl, trivial⟩, rfl, fun _ _ => rfl⟩
    | some x =>
      conv => whnf
      repeat (first | (refine rest_vc ?_; conv => whnf) | (refine ⟨by decide, ?_⟩; conv => whnf))
      exact ⟨by unfold firB; rw [h1, hk]; rfl, rfl⟩
  · conv => whnf
    repeat (first | (refine rest_vc ?_; conv => whnf) | (refine ⟨by decide, ?_⟩; conv => whnf))
    exact ⟨by unfold firB; rw [h1, h2]; rfl, rfl⟩

abbrev sLower : ByteArray := ⟨#[108, 111, 119, 101, 114]⟩
abbrev sSource : ByteArray := ⟨#[115, 111, 117, 114, 99, 101]⟩
abbrev sDest : ByteArray := ⟨#[100, 101, 115, 116]⟩
abbrev sBoth : ByteArray := ⟨#[98, 111, 116, 104]⟩
/-- Which protocol two ports have, and whether. -/
def portB (b : Bst) (t : ByteArray) (x y : Int) (how : ByteArray) : Option (Option ByteArray) :=
  if (how.toList == sLower.toList) = true then some (firB b t (min x y) (max x y)) else
  if (how.toList == sSource.toList) = true then some (firB b t x y) else
  if (how.toList == sDest.toList) = true then some (firB b t y x) else
  if (how.toList == sBoth.toList) = true then
    some (match ofB b (t, x), ofB b (t, y) with | some p, some q => if eqBA p q then some p else none | _, _ => none)
  else none
abbrev portT (r : Option (Option ByteArray)) : SV := match r with | none => .tup [vS noS, vB false, vI .i64 1] | some o => .tup [vS (optR o).1, vB (optR o).2, vI .i64 0]

theorem Port_ok (b : Bst) (t : ByteArray) (x y : Int) (how : ByteArray) : CallOk Tryz.prog 16 [.ptr 0 0, vS t, vI .i64 x, vI .i64 y, vS how] (bs b) fun r st' => r = portT (portB b t x y how) ∧ st' = bs b := by
  refine callOkD_of false 7 Tryz.func16 rfl rfl (Nat.le_refl _) ?_
  refine handD_region ?_
  conv => whnf
  refine handD_region ?_
  conv => whnf
  refine CallIn.o [0, 1, 2, 3, 4, 5, 6] (enter_ok b.k) (k := ?_)
  rintro r st' ⟨rfl, rfl⟩
  conv => whnf
  refine handD_defer (pre := [_]) rfl rfl rfl rfl rfl rfl rfl ?_
  conv => whnf
  repeat (first | (refine rest_vc ?_; conv => whnf) | (refine ⟨by decide, ?_⟩; conv => whnf))
  refine ⟨_, rfl, rfl, ?_⟩
  refine rest_vc ?_
  conv => whnf
  repeat (first | (refine rest_vc ?_; conv => whnf) | (refine ⟨by decide, ?_⟩; conv => whnf))
  split <;> rename_i h1 <;> (conv => whnf) <;> repeat (first | (refine rest_vc ?_; conv => whnf) | (refine ⟨by decide, ?_⟩; conv => whnf))
  · have he : portB b t x y how = some (firB b t (min x y) (max x y)) := by unfold portB; rw [if_pos h1]
    refine CallIn.o [1, 2, 3, 4, 5, 6] (first_ok b t (min x y) (max x y)) (k := ?_)
    rintro r st' ⟨rfl, rfl⟩
    conv => whnf
    repeat (first | (refine rest_vc ?_; conv => whnf) | (refine ⟨by decide, ?_⟩; conv => whnf))
    refine unlockD (P' := b.k) rfl ?_
    conv => whnf
    repeat (first | (refine rest_vc ?_; conv => whnf) | (refine ⟨by decide, ?_⟩; conv => whnf))
    exact ⟨by rw [he]; rfl, rfl⟩
  · split <;> rename_i h2 <;> (conv => whnf) <;> repeat (first | (refine rest_vc ?_; conv => whnf) | (refine ⟨by decide, ?_⟩; conv => whnf))
    · have he : portB b t x y how = some (firB b t x y) := by unfold portB; rw [if_neg (by rw [h1]; decide), if_pos h2]
      refine CallIn.o [1, 2, 3, 4, 5, 6] (first_ok b t x y) (k := ?_)
      rintro r st' ⟨rfl, rfl⟩
      conv => whnf
      repeat (first | (refine rest_vc ?_; conv => whnf) | (refine ⟨by decide, ?_⟩; conv => whnf))
      refine unlockD (P' := b.k) rfl ?_
      conv => whnf
      repeat (first | (refine rest_vc ?_; conv => whnf) | (refine ⟨by decide, ?_⟩; conv => whnf))
      exact ⟨by rw [he]; rfl, rfl⟩
    · split <;> rename_i h3 <;> (conv => whnf) <;> repeat (first | (refine rest_vc ?_; conv => whnf) | (refine ⟨by decide, ?_⟩; conv => whnf))
      · have he : portB b t x y how = some (firB b t y x) := by unfold portB; rw [if_neg (by rw [h1]; decide), if_neg (by rw [h2]; decide), if_pos h3]
        refine CallIn.o [1, 2, 3, 4, 5, 6] (first_ok b t y x) (k := ?_)
        rintro r st' ⟨rfl, rfl⟩
        conv => whnf
        repeat (first | (refine rest_vc ?_; conv => whnf) | (refine ⟨by decide, ?_⟩; conv => whnf))
        refine unlockD (P' := b.k) rfl ?_
        conv => whnf
        repeat (first | (refine rest_vc ?_; conv => whnf) | (refine ⟨by decide, ?_⟩; conv => whnf))
        exact ⟨by rw [he]; rfl, rfl⟩
      · split <;> rename_i h4 <;> (conv => whnf) <;> repeat (first | (refine rest_vc ?_; conv => whnf) | (refine ⟨by decide, ?_⟩; conv => whnf))
        · have he : portB b t x y how = some (match ofB b (t, x), ofB b (t, y) with | some p, some q => if eqBA p q then some p else none | _, _ => none) := by
            unfold portB; rw [if_neg (by rw [h1]; decide), if_neg (by rw [h2]; decide), if_neg (by rw [h3]; decide), if_pos h4]
          refine CallIn.o [1, 2, 3, 4, 5, 6] (of_ok b t x) (k := ?_)
          rintro r st' ⟨rfl, rfl⟩
          conv => whnf
          repeat (first | (refine rest_vc ?_; conv => whnf) | (refine ⟨by decide, ?_⟩; conv => whnf))
          refine CallIn.o [1, 2, 3, 4, 5, 6] (of_ok b t y) (k := ?_)
          rintro r st' ⟨rfl, rfl⟩
          conv => whnf
          repeat (first | (refine rest_vc ?_; conv => whnf) | (refine ⟨by decide, ?_⟩; conv => whnf))
          generalize h5 : ofB b (t, x) = p at he
          generalize h6 : ofB b (t, y) = q at he
          have fin : ∀ o, portB b t x y how = some o → ∀ v, v = portT (some o) → v = portT (portB b t x y how) := fun o h v hv => by rw [h, hv]
          cases p with
          | none =>
            conv => whnf
            repeat (first | (refine rest_vc ?_; conv => whnf) | (refine ⟨by decide, ?_⟩; conv => whnf))
            refine unlockD (P' := b.k) rfl ?_
            conv => whnf
            repeat (first | (refine rest_vc ?_; conv => whnf) | (refine ⟨by decide, ?_⟩; conv => whnf))
            exact ⟨fin _ he _ rfl, rfl⟩
          | some p =>
            cases q with
            | none =>
              conv => whnf
              repeat (first | (refine rest_vc ?_; conv => whnf) | (refine ⟨by decide, ?_⟩; conv => whnf))
              refine unlockD (P' := b.k) rfl ?_
              conv => whnf
              repeat (first | (refine rest_vc ?_; conv => whnf) | (refine ⟨by decide, ?_⟩; conv => whnf))
              exact ⟨fin _ he _ rfl, rfl⟩
            | some q =>
              conv => whnf
              repeat (first | (refine rest_vc ?_; conv => whnf) | (refine ⟨by decide, ?_⟩; conv => whnf))
              split <;> rename_i h7 <;> (conv => whnf) <;> repeat (first | (refine rest_vc ?_; conv => whnf) | (refine ⟨by decide, ?_⟩; conv => whnf))
              · refine unlockD (P' := b.k) rfl ?_
                conv => whnf
                repeat (first | (refine rest_vc ?_; conv => whnf) | (refine ⟨by decide, ?_⟩; conv => whnf))
                exact ⟨fin (some p) (he.trans (by simp only; rw [if_pos (show eqBA p q = true from h7)])) _ rfl, rfl⟩
              · refine unlockD (P' := b.k) rfl ?_
                conv => whnf
                repeat (first | (refine rest_vc ?_; conv => whnf) | (refine ⟨by decide, ?_⟩; conv => whnf))
                exact ⟨fin none (he.trans (by simp only; rw [if_neg (show ¬ eqBA p q = true by rw [show eqBA p q = false from h7]; decide)])) _ rfl, rfl⟩
        · have he : portB b t x y how = none := by
            unfold portB; rw [if_neg (by rw [h1]; decide), if_neg (by rw [h2]; decide), if_neg (by rw [h3]; decide), if_neg (by rw [h4]; decide)]
          refine unlockD (P' := b.k) rfl ?_
          conv => whnf
          repeat (first | (refine rest_vc ?_; conv => whnf) | (refine ⟨by decide, ?_⟩; conv => whnf))
          exact ⟨by rw [he]; rfl, rfl⟩

def newB : Bst := ⟨[], [], [], [], [], [], 0, 0⟩
abbrev newC : List SV := [.pure (.list 0 true []), .mref 1, .mref 2, .pure (.list 0 true []), .mref 3, .mref 4]
theorem newState_ok : CallOk Tryz.prog 40 [] [] fun r st' => r = .agg newC ∧ st' = [.cells 65 newC, .map [], .map [], .map [], .map []] := by
  refine callOk_of false 5 Tryz.func40 rfl rfl (Nat.zero_le _) ?_
  conv => whnf
  repeat (first | (refine rest_vc ?_; conv => whnf) | (refine ⟨by decide, ?_⟩; conv => whnf))
  exact ⟨rfl, rfl⟩
theorem New_ok : CallOk Tryz.prog 14 [] [] fun r st' => r = .ptr 5 0 ∧ st' = [.cells 65 newC, .map [], .map [], .map [], .map [], .cells 75 (vI .i32 0 :: vI .u32 0 :: newC)] := by
  refine callOk_of false 6 Tryz.func14 rfl rfl (Nat.zero_le _) ?_
  conv => whnf
  repeat (first | (refine rest_vc ?_; conv => whnf) | (refine ⟨by decide, ?_⟩; conv => whnf))
  refine CallIn.o [] (newState_ok) (k := ?_)
  rintro r st' ⟨rfl, rfl⟩
  conv => whnf
  repeat (first | (refine rest_vc ?_; conv => whnf) | (refine ⟨by decide, ?_⟩; conv => whnf))
  exact ⟨rfl, rfl⟩
end Go.Proofs.YtafngalmkblipaaGreatDoor
/- law10: the reference's book: rows, rules, preferences. -/
set_option linter.all false
set_option maxHeartbeats 4000000
set_option maxRecDepth 100000
namespace Go.Proofs.YtafngalmkblipaaGreatDoor
open Go Go.RowKit Go.Sy Go.Proofs

structure Rst where
  rows : List Rw
  rules : List Rw
  prefs : List Pf
  off : List ByteArray
  names : List Nm
def rbC (r : Rst) : List SV := [.pure (.list 3 r.rows.isEmpty (r.rows.map pvR)), .pure (.list 3 r.rules.isEmpty (r.rules.map pvR)), .pure (.list 5 r.prefs.isEmpty (r.prefs.map pvF)), .pure (.list 1 r.off.isEmpty (r.off.map pvB)), .pure (.list 2 r.names.isEmpty (r.names.map pvN))]
def rs (r : Rst) : List Ob := [.cells 78 (rbC r)]

def isRw (t : ByteArray) (k : Int) (r : Rw) : Bool := eqBA r.t t && (r.k == k)
theorem rfind_ok (nl : Bool) (l : List Rw) (t : ByteArray) (k : Int) (hl : (l.length : Int) ≤ 2000000) :
    CallOk Tryz.prog 65 [.pure (.list 3 nl (l.map pvR)), vS t, vI .i64 k] [] fun r st' => st' = [] ∧ r = vI .i64 (fstI (isRw t k) l 0) := by
  refine callOk_of true 0 Tryz.func65 rfl rfl (Nat.le_refl _) ?_
  conv => whnf
  repeat (first | (refine rest_vc ?_; conv => whnf) | (refine ⟨by decide, ?_⟩; conv => whnf))
  refine awp_loop (n := 31) (α := Nat) (fun i => i ≤ l.length ∧ fstI (isRw t k) (l.drop i) i = fstI (isRw t k) l 0) (fun i => [(0, .pure (.list 3 nl (l.map pvR))), (1, vS t), (2, vI .i64 k), (7, vI .i64 i)])
    (fun _ => []) (fun i => l.length - i) 0 (fun _ => 0)
    ⟨Nat.zero_le _, rfl⟩ rfl ⟨rfl, rfl, rfl, rfl, trivial⟩ rfl (fun _ _ => rfl) (fun _ => ⟨Nat.le_refl _, rfl, rfl⟩) ?_
  rintro i ⟨hi, hc⟩
  conv => whnf
  repeat (first | (refine rest_vc ?_; conv => whnf) | (refine ⟨by decide, ?_⟩; conv => whnf))
  intro _
  conv => whnf
  repeat (first | (refine rest_vc ?_; conv => whnf) | (refine ⟨by decide, ?_⟩; conv => whnf))
  split <;> rename_i h <;> (conv => whnf) <;> repeat (first | (refine rest_vc ?_; conv => whnf) | (refine ⟨by decide, ?_⟩; conv => whnf))
  · have h := of_decide_eq_true h
    have hlt : i < l.length := by rw [List.length_map] at h; omega
    refine ⟨by rw [List.length_map]; omega, fun p hp => ?_⟩
    rw [List.getElem?_map, Option.map_eq_some_iff] at hp
    obtain ⟨q, hq, rfl⟩ := hp
    have hq : l[i]? = some q := by simpa using hq
    conv => whnf
    repeat (first | (refine rest_vc ?_; conv => whnf) | (refine ⟨by decide, ?_⟩; conv => whnf))
    have nxt : isRw t k q = false → ∃ x' f, (x' ≤ l.length ∧ fstI (isRw t k) (l.drop x') x' = fstI (isRw t k) l 0) ∧ l.length - x' < l.length - i ∧ True ∧ vI .i64 (IntKind.i64.wrap (i + 1)) = vI .i64 (x' : Nat) ∧ f = fun _ : Nat => 0 := fun h2 =>
      ⟨i + 1, _, ⟨hlt, by rw [← hc, fstI_at hq, if_neg (by rw [h2]; decide)]⟩, by omega, trivial, congrArg (vI .i64) (by rw [w64 (by omega) (by omega)]; omega), rfl⟩
    split <;> rename_i h2 <;> (conv => whnf) <;> repeat (first | (refine rest_vc ?_; conv => whnf) | (refine ⟨by decide, ?_⟩; conv => whnf))
    · refine ⟨by rw [List.length_map]; omega, fun p hp => ?_⟩
      rw [List.getElem?_map, Option.map_eq_some_iff] at hp
      obtain ⟨q', hq', rfl⟩ := hp
      have hq' : l[i]? = some q' := by simpa using hq'
      obtain rfl : q = q' := Option.some.inj (hq.symm.trans hq')
      conv => whnf
      repeat (first | (refine rest_vc ?_; conv => whnf) | (refine ⟨by decide, ?_⟩; conv => whnf))
      split <;> rename_i h3 <;> (conv => whnf) <;> repeat (first | (refine rest_vc ?_; conv => whnf) | (refine ⟨by decide, ?_⟩; conv => whnf))
      · exact ⟨rfl, congrArg (vI .i64) (by rw [← hc, fstI_at hq, if_pos (by unfold isRw; rw [show eqBA q.t t = true from h2, h3]; rfl)])⟩
      · obtain ⟨x', f, g1, g2, _, g3, rfl⟩ := nxt (by unfold isRw; rw [h3]; simp)
        exact ⟨x', _, g1, g2, rfl, ⟨rfl, rfl, rfl, g3, trivial⟩, rfl, fun _ _ => rfl⟩
    · obtain ⟨x', f, g1, g2, _, g3, rfl⟩ := nxt (by unfold isRw; rw [show eqBA q.t t = false from h2]; rfl)
      exact ⟨x', _, g1, g2, rfl, ⟨rfl, rfl, rfl, g3, trivial⟩, rfl, fun _ _ => rfl⟩
  · have h := of_decide_eq_false h
    exact ⟨rfl, congrArg (vI .i64) (by rw [← hc, fstI_end (by rw [List.length_map] at h; omega)])⟩

theorem emp_map {α β : Type} (f : α → β) (l : List α) : (l.map f).isEmpty = l.isEmpty := by cases l <;> rfl
theorem emp_snoc {α : Type} (l : List α) (x : α) : (l ++ [x]).isEmpty = false := by cases l <;> rfl
theorem rs_rows (r : Rst) (x : Rw) (b : Bool) : [Ob.cells 78 (.pure (.list 3 (b && [pvR x].isEmpty) (r.rows.map pvR ++ [pvR x])) :: (rbC r).tail)] = rs { r with rows := r.rows ++ [x] } := by
  unfold rs rbC
  simp [emp_snoc]
/-- The reference's rows: put behind the others. -/
def rrowB (r : Rst) (x : Rw) : Int × Rst :=
  if isRowB x = false then (1, r) else
  if 0 ≤ fstI (isRw x.t x.k) r.rows 0 then (5, r) else
  if r.rows.length ≥ 60 then (3, r) else (0, { r with rows := r.rows ++ [x] })

theorem rRow_ok (hw : IsW 69) (r : Rst) (x : Rw) (hz : x.ok) (hr : (r.rows.length : Int) ≤ 1000) : CallOk Tryz.prog 27 [.ptr 0 0, .pure (pvR x)] (rs r) fun r' st' => r' = vI .i64 (rrowB r x).1 ∧ st' = rs (rrowB r x).2 := by
  refine callOk_of false 1 Tryz.func27 rfl rfl (Nat.le_refl _) ?_
  conv => whnf
  repeat (first | (refine rest_vc ?_; conv => whnf) | (refine ⟨by decide, ?_⟩; conv => whnf))
  refine CallIn.tob ((risRow_ok hw x hz)) (k := ?_)
  intro b h1
  cases b <;> (conv => whnf) <;> repeat (first | (refine rest_vc ?_; conv => whnf) | (refine ⟨by decide, ?_⟩; conv => whnf))
  · exact ⟨congrArg (vI .i64) (by unfold rrowB; rw [if_pos h1]), congrArg rs (by unfold rrowB; rw [if_pos h1])⟩
  · have h1' : ¬ isRowB x = false := by simp [h1]
    refine hand_drawL {} [8] (fun _ _ => True) rfl (by kernel_rfl) rfl ?_
    conv => whnf
    repeat (first | (refine rest_vc ?_; conv => whnf) | (refine ⟨by decide, ?_⟩; conv => whnf))
    refine CallIn.to (rfind_ok r.rows.isEmpty r.rows x.t x.k (by omega)) (k := ?_)
    conv => whnf
    repeat (first | (refine rest_vc ?_; conv => whnf) | (refine ⟨by decide, ?_⟩; conv => whnf))
    split <;> rename_i h2 <;> (conv => whnf) <;> repeat (first | (refine rest_vc ?_; conv => whnf) | (refine ⟨by decide, ?_⟩; conv => whnf))
    · have h2 := of_decide_eq_true h2
      have he : rrowB r x = (5, r) := by unfold rrowB; rw [if_neg h1', if_pos h2]
      exact ⟨congrArg (vI .i64) (by rw [he]), congrArg rs (by rw [he])⟩
    · have h2 := of_decide_eq_false h2
      intro _
      conv => whnf
      repeat (first | (refine rest_vc ?_; conv => whnf) | (refine ⟨by decide, ?_⟩; conv => whnf))
      split <;> rename_i h3 <;> (conv => whnf) <;> repeat (first | (refine rest_vc ?_; conv => whnf) | (refine ⟨by decide, ?_⟩; conv => whnf))
      · have hl : r.rows.length ≥ 60 := by
          have : ((r.rows.map pvR).length : Int) ≥ 60 := of_decide_eq_true h3
          rw [List.length_map] at this
          omega
        have he : rrowB r x = (3, r) := by unfold rrowB; rw [if_neg h1', if_neg h2, if_pos hl]
        exact ⟨congrArg (vI .i64) (by rw [he]), congrArg rs (by rw [he])⟩
      · have hl : ¬ r.rows.length ≥ 60 := by
          have : ¬ ((r.rows.map pvR).length : Int) ≥ 60 := of_decide_eq_false h3
          rw [List.length_map] at this
          omega
        have he : rrowB r x = (0, { r with rows := r.rows ++ [x] }) := by unfold rrowB; rw [if_neg h1', if_neg h2, if_neg hl]
        have hlk : (r.rows.map pvR).length ≤ 60 := by rw [List.length_map]; omega
        refine hand_frc 1 rfl rfl ?_
        refine hand_drawL { lds := [6] } [5, 8, 11] (fun _ _ => True) rfl (by kernel_rfl) rfl ?_
        conv => whnf
        repeat (first | (refine rest_vc ?_; conv => whnf) | (refine ⟨by decide, ?_⟩; conv => whnf))
        refine ⟨by exact Nat.le_trans (Nat.mul_le_mul_right _ hlk) (by decide), ?_⟩
        conv => whnf
        repeat (first | (refine rest_vc ?_; conv => whnf) | (refine ⟨by decide, ?_⟩; conv => whnf))
        refine ⟨Nat.le_trans (Nat.mul_le_mul_right _ (Nat.add_le_add_right hlk 1)) (by decide), ?_⟩
        conv => whnf
        repeat (refine ⟨by decide, ?_⟩; conv => whnf)
        refine rest_frza 2 rfl ?_
        refine rest_vc ?_
        conv => whnf
        repeat (first | (refine rest_vc ?_; conv => whnf) | (refine ⟨by decide, ?_⟩; conv => whnf))
        refine ⟨congrArg (vI .i64) (by rw [he]), ?_⟩
        rw [he]
        exact rs_rows r x _

def rpos (t : ByteArray) (k : Int) (r : Rst) : Int := fstI (isRw t k) r.rules 0
def runruleB (r : Rst) (t : ByteArray) (k : Int) : Int × Rst :=
  if rpos t k r < 0 then (4, r) else (0, { r with rules := r.rules.take (rpos t k r).toNat ++ r.rules.drop ((rpos t k r).toNat + 1) })

theorem rUnrule_ok (r : Rst) (t : ByteArray) (k : Int) (hr : (r.rules.length : Int) ≤ 1000) : CallOk Tryz.prog 30 [.ptr 0 0, vS t, vI .i64 k] (rs r) fun r' st' => r' = vI .i64 (runruleB r t k).1 ∧ st' = rs (runruleB r t k).2 := by
  have hfl := fstI_lt (isRw t k) r.rules 0
  refine callOk_of false 1 Tryz.func30 rfl rfl (Nat.le_refl _) ?_
  conv => whnf
  repeat (first | (refine rest_vc ?_; conv => whnf) | (refine ⟨by decide, ?_⟩; conv => whnf))
  refine CallIn.to (rfind_ok r.rules.isEmpty r.rules t k (by omega)) (k := ?_)
  conv => whnf
  repeat (first | (refine rest_vc ?_; conv => whnf) | (refine ⟨by decide, ?_⟩; conv => whnf))
  split <;> rename_i h1 <;> (conv => whnf) <;> repeat (first | (refine rest_vc ?_; conv => whnf) | (refine ⟨by decide, ?_⟩; conv => whnf))
  · have h1 := of_decide_eq_true h1
    have he : runruleB r t k = (4, r) := by unfold runruleB rpos; rw [if_pos h1]
    exact ⟨congrArg (vI .i64) (by rw [he]), congrArg rs (by rw [he])⟩
  · have h1 := of_decide_eq_false h1
    have hlt : (fstI (isRw t k) r.rules 0).toNat < r.rules.length := by omega
    have he : runruleB r t k = (0, { r with rules := r.rules.take (fstI (isRw t k) r.rules 0).toNat ++ r.rules.drop ((fstI (isRw t k) r.rules 0).toNat + 1) }) := by unfold runruleB rpos; rw [if_neg h1]
    generalize hp : fstI (isRw t k) r.rules 0 = p at *
    refine hand_drawL { ldc := [11], kps := [7] } [7, 15, 18] (fun _ _ => True) rfl (by kernel_rfl) rfl ?_
    conv => whnf
    repeat (first | (refine rest_vc ?_; conv => whnf) | (refine ⟨by decide, ?_⟩; conv => whnf))
    have hll : (r.rules.map pvR).length = r.rules.length := List.length_map ..
    refine ⟨⟨by omega, by show p ≤ ((r.rules.map pvR).length : Int); omega⟩, ?_⟩
    conv => whnf
    repeat (first | (refine rest_vc ?_; conv => whnf) | (refine ⟨by decide, ?_⟩; conv => whnf))
    refine ⟨Nat.le_trans (Nat.mul_le_mul_right _ (show List.length _ ≤ 1000 by simp; omega)) (by decide), ?_⟩
    conv => whnf
    repeat (first | (refine rest_vc ?_; conv => whnf) | (refine ⟨by decide, ?_⟩; conv => whnf))
    refine ⟨⟨.inl rfl, trivial⟩, ?_⟩
    conv => whnf
    repeat (first | (refine rest_vc ?_; conv => whnf) | (refine ⟨by decide, ?_⟩; conv => whnf))
    have hw : IntKind.i64.wrap (p + 1) = p + 1 := w64 (by omega) (by omega)
    refine ⟨⟨by rw [hw]; omega, by rw [hw]; show p + 1 ≤ ((r.rules.map pvR).length : Int); omega⟩, ?_⟩
    rw [hw]
    conv => whnf
    repeat (first | (refine rest_vc ?_; conv => whnf) | (refine ⟨by decide, ?_⟩; conv => whnf))
    refine ⟨Nat.le_trans (Nat.mul_le_mul_right _ (show List.length _ + List.length _ ≤ 2000 by simp; omega)) (by decide), ?_⟩
    conv => whnf
    repeat (refine ⟨by decide, ?_⟩; conv => whnf)
    refine rest_frza 1 rfl ?_
    refine rest_vc ?_
    conv => whnf
    repeat (first | (refine rest_vc ?_; conv => whnf) | (refine ⟨by decide, ?_⟩; conv => whnf))
    refine ⟨congrArg (vI .i64) (by rw [he]), ?_⟩
    rw [he]
    refine (congrArg (fun x => [Ob.cells 78 (SV.pure (.list 3 r.rows.isEmpty (r.rows.map pvR)) :: x :: (rbC r).tail.tail)]) (?_ : _ = SV.pure (.list 3 (List.isEmpty _) _)))
    have e1 : (List.take p.toNat r.rules ++ List.drop (p.toNat + 1) r.rules).isEmpty = ((List.take p.toNat r.rules).isEmpty && (List.drop (p.toNat + 1) r.rules).isEmpty) := by
      cases List.take p.toNat r.rules <;> simp
    have e2 : List.take (p.toNat - 0) (List.drop 0 (r.rules.map pvR)) = (List.take p.toNat r.rules).map pvR := by simp [List.map_take]
    have e3 : List.take ((r.rules.map pvR).length - (p + 1).toNat) (List.drop (p + 1).toNat (r.rules.map pvR)) = (List.drop (p.toNat + 1) r.rules).map pvR := by
      rw [show (p + 1).toNat = p.toNat + 1 by omega, List.take_of_length_le (by simp), List.map_drop]
    refine (?_ : SV.pure (.list 3 ((List.take (p.toNat - 0) (List.drop 0 (r.rules.map pvR))).isEmpty && (List.take ((r.rules.map pvR).length - (p + 1).toNat) (List.drop (p + 1).toNat (r.rules.map pvR))).isEmpty)
      (List.take (p.toNat - 0) (List.drop 0 (r.rules.map pvR)) ++ List.take ((r.rules.map pvR).length - (p + 1).toNat) (List.drop (p + 1).toNat (r.rules.map pvR)))) = _)
    rw [e2, e3, e1, ← List.map_append, emp_map, emp_map]

/-! ## preferences -/
def rbP (r : Rst) : List PV := [.list 3 r.rows.isEmpty (r.rows.map pvR), .list 3 r.rules.isEmpty (r.rules.map pvR), .list 5 r.prefs.isEmpty (r.prefs.map pvF), .list 1 r.off.isEmpty (r.off.map pvB), .list 2 r.names.isEmpty (r.names.map pvN)]

theorem rpref_ok (r : Rst) (n : ByteArray) (hl : (r.prefs.length : Int) ≤ 2000000) : CallOk Tryz.prog 71 [.ipt (rbP r), vS n] [] fun x st' => st' = [] ∧ x = vI .i64 (fstI (isPf n) r.prefs 0) := by
  refine callOk_of true 0 Tryz.func71 rfl rfl (Nat.le_refl _) ?_
  conv => whnf
  repeat (first | (refine rest_vc ?_; conv => whnf) | (refine ⟨by decide, ?_⟩; conv => whnf))
  refine awp_loop (n := 26) (α := Nat) (fun i => i ≤ r.prefs.length ∧ fstI (isPf n) (r.prefs.drop i) i = fstI (isPf n) r.prefs 0) (fun i => [(0, .ipt (rbP r)), (1, vS n), (5, vI .i64 i)])
    (fun _ => []) (fun i => r.prefs.length - i) 0 (fun _ => 0)
    ⟨Nat.zero_le _, rfl⟩ rfl ⟨rfl, rfl, rfl, trivial⟩ rfl (fun _ _ => rfl) (fun _ => ⟨Nat.le_refl _, rfl, rfl⟩) ?_
  rintro i ⟨hi, hc⟩
  conv => whnf
  repeat (first | (refine rest_vc ?_; conv => whnf) | (refine ⟨by decide, ?_⟩; conv => whnf))
  intro _
  conv => whnf
  repeat (first | (refine rest_vc ?_; conv => whnf) | (refine ⟨by decide, ?_⟩; conv => whnf))
  split <;> rename_i h <;> (conv => whnf) <;> repeat (first | (refine rest_vc ?_; conv => whnf) | (refine ⟨by decide, ?_⟩; conv => whnf))
  · have h := of_decide_eq_true h
    have hlt : i < r.prefs.length := by rw [List.length_map] at h; omega
    refine ⟨by rw [List.length_map]; omega, fun p hp => ?_⟩
    rw [List.getElem?_map, Option.map_eq_some_iff] at hp
    obtain ⟨q, hq, rfl⟩ := hp
    have hq : r.prefs[i]? = some q := by simpa using hq
    conv => whnf
    repeat (first | (refine rest_vc ?_; conv => whnf) | (refine ⟨by decide, ?_⟩; conv => whnf))
    split <;> rename_i h2 <;> (conv => whnf) <;> repeat (first | (refine rest_vc ?_; conv => whnf) | (refine ⟨by decide, ?_⟩; conv => whnf))
    · exact ⟨rfl, congrArg (vI .i64) (by rw [← hc, fstI_at hq, if_pos (show isPf n q = true from h2)])⟩
    · refine ⟨i + 1, fun _ => 0, ⟨hlt, ?_⟩, ?_, rfl, ⟨rfl, rfl, congrArg (vI .i64) ?_, trivial⟩, rfl, fun _ _ => rfl⟩
      · rw [← hc, fstI_at hq, if_neg (by rw [show isPf n q = false from h2]; decide)]
      · omega
      · rw [w64 (by omega) (by omega)]; omega
  · have h := of_decide_eq_false h
    exact ⟨rfl, congrArg (vI .i64) (by rw [← hc, fstI_end (by rw [List.length_map] at h; omega)])⟩

theorem rs_prefs (r : Rst) (x : Pf) (b : Bool) : [Ob.cells 78 ((rbC r).take 2 ++ .pure (.list 5 (b && [pvF x].isEmpty) (r.prefs.map pvF ++ [pvF x])) :: (rbC r).drop 3)] = rs { r with prefs := r.prefs ++ [x] } := by
  unfold rs rbC
  simp [emp_snoc]
def rprefB (r : Rst) (n : ByteArray) (l m u : Int) : Int × Rst :=
  if (!isWordB n || decide (l > u) || decide (u > m) || !isNumB l || !isNumB m) = true then (1, r)
  else if 0 ≤ fstI (isPf n) r.prefs 0 then (5, r)
  else if r.prefs.length ≥ 60 then (3, r)
  else (0, { r with prefs := r.prefs ++ [⟨n, l, m, u, u⟩] })

theorem rPref_ok (hw : IsW 69) (r : Rst) (n : ByteArray) (l m u : Int) (hz : (n.size : Int) ≤ 2000000) (hr : (r.prefs.length : Int) ≤ 1000) :
    CallOk Tryz.prog 32 [.ptr 0 0, vS n, vI .i64 l, vI .i64 m, vI .i64 u] (rs r) fun r' st' => r' = vI .i64 (rprefB r n l m u).1 ∧ st' = rs (rprefB r n l m u).2 := by
  have fin : (!isWordB n || decide (l > u) || decide (u > m) || !isNumB l || !isNumB m) = true → (vI .i64 1 = vI .i64 (rprefB r n l m u).1 ∧ rs r = rs (rprefB r n l m u).2) := fun h => by
    have : rprefB r n l m u = (1, r) := by unfold rprefB; rw [if_pos h]
    rw [this]; exact ⟨rfl, rfl⟩
  refine callOk_of false 1 Tryz.func32 rfl rfl (Nat.le_refl _) ?_
  conv => whnf
  repeat (first | (refine rest_vc ?_; conv => whnf) | (refine ⟨by decide, ?_⟩; conv => whnf))
  refine CallIn.tob ((hw n hz)) (k := ?_)
  intro b h1
  cases b <;> (conv => whnf) <;> repeat (first | (refine rest_vc ?_; conv => whnf) | (refine ⟨by decide, ?_⟩; conv => whnf))
  · exact fin (by rw [h1]; rfl)
  · split <;> rename_i h2 <;> (conv => whnf) <;> repeat (first | (refine rest_vc ?_; conv => whnf) | (refine ⟨by decide, ?_⟩; conv => whnf))
    · exact fin (by rw [h2]; simp)
    · split <;> rename_i h3 <;> (conv => whnf) <;> repeat (first | (refine rest_vc ?_; conv => whnf) | (refine ⟨by decide, ?_⟩; conv => whnf))
      · exact fin (by rw [h3]; simp)
      · refine CallIn.tob ((risNum_ok l)) (k := ?_)
        intro b h4
        cases b <;> (conv => whnf) <;> repeat (first | (refine rest_vc ?_; conv => whnf) | (refine ⟨by decide, ?_⟩; conv => whnf))
        · exact fin (by rw [h4]; simp)
        · refine CallIn.tob ((risNum_ok m)) (k := ?_)
          intro b h5
          cases b <;> (conv => whnf) <;> repeat (first | (refine rest_vc ?_; conv => whnf) | (refine ⟨by decide, ?_⟩; conv => whnf))
          · exact fin (by rw [h5]; simp)
          · have hg : ¬ (!isWordB n || decide (l > u) || decide (u > m) || !isNumB l || !isNumB m) = true := by rw [h1, h2, h3, h4, h5]; decide
            refine CallIn.to (rpref_ok r n (by omega)) (k := ?_)
            conv => whnf
            repeat (first | (refine rest_vc ?_; conv => whnf) | (refine ⟨by decide, ?_⟩; conv => whnf))
            split <;> rename_i h6 <;> (conv => whnf) <;> repeat (first | (refine rest_vc ?_; conv => whnf) | (refine ⟨by decide, ?_⟩; conv => whnf))
            · have h6 := of_decide_eq_true h6
              have he : rprefB r n l m u = (5, r) := by unfold rprefB; rw [if_neg hg, if_pos h6]
              exact ⟨congrArg (vI .i64) (by rw [he]), congrArg rs (by rw [he])⟩
            · have h6 := of_decide_eq_false h6
              intro _
              conv => whnf
              repeat (first | (refine rest_vc ?_; conv => whnf) | (refine ⟨by decide, ?_⟩; conv => whnf))
              split <;> rename_i h7 <;> (conv => whnf) <;> repeat (first | (refine rest_vc ?_; conv => whnf) | (refine ⟨by decide, ?_⟩; conv => whnf))
              · have hl : r.prefs.length ≥ 60 := by
                  have : ((r.prefs.map pvF).length : Int) ≥ 60 := of_decide_eq_true h7
                  rw [List.length_map] at this
                  omega
                have he : rprefB r n l m u = (3, r) := by unfold rprefB; rw [if_neg hg, if_neg h6, if_pos hl]
                exact ⟨congrArg (vI .i64) (by rw [he]), congrArg rs (by rw [he])⟩
              · have hl : ¬ r.prefs.length ≥ 60 := by
                  have : ¬ ((r.prefs.map pvF).length : Int) ≥ 60 := of_decide_eq_false h7
                  rw [List.length_map] at this
                  omega
                have he : rprefB r n l m u = (0, { r with prefs := r.prefs ++ [⟨n, l, m, u, u⟩] }) := by unfold rprefB; rw [if_neg hg, if_neg h6, if_neg hl]
                have hlk : (r.prefs.map pvF).length ≤ 60 := by rw [List.length_map]; omega
                refine ⟨by exact Nat.le_trans (Nat.mul_le_mul_right _ hlk) (by decide), ?_⟩
                conv => whnf
                repeat (first | (refine rest_vc ?_; conv => whnf) | (refine ⟨by decide, ?_⟩; conv => whnf))
                refine ⟨Nat.le_trans (Nat.mul_le_mul_right _ (Nat.add_le_add_right hlk 1)) (by decide), ?_⟩
                conv => whnf
                repeat (refine ⟨by decide, ?_⟩; conv => whnf)
                refine rest_frza 1 rfl ?_
                refine rest_vc ?_
                conv => whnf
                repeat (first | (refine rest_vc ?_; conv => whnf) | (refine ⟨by decide, ?_⟩; conv => whnf))
                refine ⟨congrArg (vI .i64) (by rw [he]), ?_⟩
                rw [he]
                exact rs_prefs r ⟨n, l, m, u, u⟩ _

def rsetB (r : Rst) (n : ByteArray) (v : Int) : Int × Rst :=
  let k := fstI (isPf n) r.prefs 0
  if k < 0 then (4, r) else
  match r.prefs[k.toNat]? with
  | none => (4, r)
  | some p => if (decide (v < p.l) || decide (v > p.m)) = true then (1, r) else (0, { r with prefs := r.prefs.set k.toNat { p with v := v } })

theorem rSet_ok (r : Rst) (n : ByteArray) (v : Int) (hr : (r.prefs.length : Int) ≤ 1000) :
    CallOk Tryz.prog 34 [.ptr 0 0, vS n, vI .i64 v] (rs r) fun r' st' => r' = vI .i64 (rsetB r n v).1 ∧ st' = rs (rsetB r n v).2 := by
  have hfl := fstI_lt (isPf n) r.prefs 0
  refine callOk_of false 1 Tryz.func34 rfl rfl (Nat.le_refl _) ?_
  conv => whnf
  repeat (first | (refine rest_vc ?_; conv => whnf) | (refine ⟨by decide, ?_⟩; conv => whnf))
  refine CallIn.to (rpref_ok r n (by omega)) (k := ?_)
  conv => whnf
  repeat (first | (refine rest_vc ?_; conv => whnf) | (refine ⟨by decide, ?_⟩; conv => whnf))
  split <;> rename_i h1 <;> (conv => whnf) <;> repeat (first | (refine rest_vc ?_; conv => whnf) | (refine ⟨by decide, ?_⟩; conv => whnf))
  · have h1 := of_decide_eq_true h1
    have he : rsetB r n v = (4, r) := by unfold rsetB; simp only; rw [if_pos h1]
    exact ⟨congrArg (vI .i64) (by rw [he]), congrArg rs (by rw [he])⟩
  · have h1 := of_decide_eq_false h1
    have hlt : (fstI (isPf n) r.prefs 0).toNat < r.prefs.length := by omega
    obtain ⟨p, hp⟩ : ∃ p, r.prefs[(fstI (isPf n) r.prefs 0).toNat]? = some p := ⟨_, List.getElem?_eq_getElem hlt⟩
    have hin : (fstI (isPf n) r.prefs 0).toNat < (r.prefs.map pvF).length := by rw [List.length_map]; exact hlt
    have hpp : (r.prefs.map pvF)[(fstI (isPf n) r.prefs 0).toNat]? = some (pvF p) := by rw [List.getElem?_map, hp]; rfl
    have hset : decide (v < p.l) = true ∨ decide (v > p.m) = true → rsetB r n v = (1, r) := fun h => by
      unfold rsetB; simp only; rw [if_neg h1, hp]; simp only; rw [if_pos (by rcases h with h | h <;> simp [h])]
    have he : decide (v < p.l) = false → decide (v > p.m) = false → rsetB r n v = (0, { r with prefs := r.prefs.set (fstI (isPf n) r.prefs 0).toNat { p with v := v } }) := fun h2 h3 => by
      unfold rsetB; simp only; rw [if_neg h1, hp]; simp only; rw [if_neg (by simp [h2, h3])]
    generalize hk : fstI (isPf n) r.prefs 0 = k at *
    refine ⟨⟨by omega, by show k < ((r.prefs.map pvF).length : Int); omega⟩, fun q hq => ?_⟩
    obtain rfl : pvF p = q := Option.some.inj (hpp.symm.trans hq)
    conv => whnf
    repeat (first | (refine rest_vc ?_; conv => whnf) | (refine ⟨by decide, ?_⟩; conv => whnf))
    split <;> rename_i h2 <;> (conv => whnf) <;> repeat (first | (refine rest_vc ?_; conv => whnf) | (refine ⟨by decide, ?_⟩; conv => whnf))
    · exact ⟨congrArg (vI .i64) (by rw [hset (.inl h2)]), congrArg rs (by rw [hset (.inl h2)])⟩
    · refine ⟨⟨by omega, by show k < ((r.prefs.map pvF).length : Int); omega⟩, fun q hq => ?_⟩
      obtain rfl : pvF p = q := Option.some.inj (hpp.symm.trans hq)
      conv => whnf
      repeat (first | (refine rest_vc ?_; conv => whnf) | (refine ⟨by decide, ?_⟩; conv => whnf))
      split <;> rename_i h3 <;> (conv => whnf) <;> repeat (first | (refine rest_vc ?_; conv => whnf) | (refine ⟨by decide, ?_⟩; conv => whnf))
      · exact ⟨congrArg (vI .i64) (by rw [hset (.inr h3)]), congrArg rs (by rw [hset (.inr h3)])⟩
      · refine ⟨by exact Nat.le_trans (Nat.mul_le_mul_right _ (show (r.prefs.map pvF).length ≤ 1000 by rw [List.length_map]; omega)) (by decide), ?_⟩
        conv => whnf
        repeat (first | (refine rest_vc ?_; conv => whnf) | (refine ⟨by decide, ?_⟩; conv => whnf))
        refine ⟨by exact ⟨by omega, by show k < ((r.prefs.map pvF).length : Int); omega⟩, ?_⟩
        conv => whnf
        repeat (first | (refine rest_vc ?_; conv => whnf) | (refine ⟨by decide, ?_⟩; conv => whnf))
        refine ⟨hin, fun q hq => ?_⟩
        obtain rfl : pvF p = q := Option.some.inj (hpp.symm.trans hq)
        conv => whnf
        repeat (refine ⟨by decide, ?_⟩; conv => whnf)
        refine rest_frza 1 rfl ?_
        refine rest_vc ?_
        conv => whnf
        repeat (first | (refine rest_vc ?_; conv => whnf) | (refine ⟨by decide, ?_⟩; conv => whnf))
        refine ⟨congrArg (vI .i64) (by rw [he h2 h3]), ?_⟩
        rw [he h2 h3]
        refine Eq.trans (?_ : _ = [Ob.cells 78 ((rbC r).take 2 ++ .pure (.list 5 (r.prefs.map pvF).isEmpty ((r.prefs.map pvF).set k.toNat (pvF { p with v := v }))) :: (rbC r).drop 3)]) ?_
        · rfl
        · have e2 : (r.prefs.set k.toNat { p with v := v }).isEmpty = r.prefs.isEmpty := by cases r.prefs <;> cases k.toNat <;> rfl
          unfold rs rbC
          simp [e2, List.map_set]
end Go.Proofs.YtafngalmkblipaaGreatDoor
/- law10: the reference's book: rules. -/
set_option linter.all false
set_option maxHeartbeats 4000000
set_option maxRecDepth 100000
namespace Go.Proofs.YtafngalmkblipaaGreatDoor
open Go Go.RowKit Go.Sy Go.Proofs

/-- The first ones but that at a place. -/
def outK {α : Type} (l : List α) (a : Int) : Nat → List α
  | 0 => []
  | i + 1 => outK l a i ++ (if (i : Int) = a then [] else l[i]?.toList)
theorem outK_len {α : Type} (l : List α) (a : Int) : ∀ i, (outK l a i).length ≤ i
  | 0 => Nat.le_refl _
  | i + 1 => by
    have := outK_len l a i
    simp only [outK, List.length_append]
    split
    · simp; omega
    · cases l[i]? <;> simp <;> omega
theorem outK_hit {α : Type} {l : List α} {a : Int} {i : Nat} (h : (i : Int) = a) : outK l a (i + 1) = outK l a i := by simp [outK, h]
theorem outK_get {α : Type} {l : List α} {a : Int} {i : Nat} {x : α} (h : ¬ (i : Int) = a) (hx : l[i]? = some x) : outK l a (i + 1) = outK l a i ++ [x] := by simp [outK, h, hx]

def lsBA (a b : ByteArray) : Bool := Op.bytesLess a.toList b.toList
def lsR (r x : Rw) : Bool := lsBA x.t r.t || (eqBA x.t r.t && decide (x.k < r.k))
/-- How many go ahead of one. -/
def preN {α : Type} (f : α → Bool) : List α → Nat
  | [] => 0
  | x :: r => if f x then preN f r + 1 else 0
theorem preN_le {α : Type} (f : α → Bool) : ∀ l : List α, preN f l ≤ l.length
  | [] => Nat.le_refl _
  | x :: r => by have := preN_le f r; simp only [preN, List.length_cons]; split <;> omega
theorem preN_at {α : Type} {f : α → Bool} {l : List α} {i : Nat} {x : α} (h : l[i]? = some x) : i + preN f (l.drop i) = if f x then i + 1 + preN f (l.drop (i + 1)) else i := by
  obtain ⟨h1, h2⟩ := List.getElem?_eq_some_iff.1 h
  rw [List.drop_eq_getElem_cons h1, h2]
  simp only [preN]
  split <;> omega

abbrev rOut (r : Rst) (x : Rw) : List Rw := outK r.rules (rpos x.t x.k r) r.rules.length
def rruleB (r : Rst) (x : Rw) : Int × Rst :=
  if isRowB x = false then (1, r) else
  if (decide (rpos x.t x.k r < 0) && decide (r.rules.length ≥ 60)) = true then (3, r) else
  (0, { r with rules := (rOut r x).take (preN (lsR x) (rOut r x)) ++ [x] ++ (rOut r x).drop (preN (lsR x) (rOut r x)) })

theorem rs_rules (r : Rst) (l : List Rw) {b : Bool} {ps : List PV} (hp : ps = l.map pvR) (hb : b = l.isEmpty) : [Ob.cells 78 ((rbC r).take 1 ++ .pure (.list 3 b ps) :: (rbC r).drop 2)] = rs { r with rules := l } := by
  subst hp hb
  rfl
theorem succ64 {i : Nat} (h : (i : Int) ≤ 9223372036854775806) : IntKind.i64.wrap ((i : Int) + 1) = ((i + 1 : Nat) : Int) := by rw [w64 (by omega) (by omega)]; omega

theorem rRule_ok (hw : IsW 69) (r : Rst) (x : Rw) (hz : x.ok) (hr : (r.rules.length : Int) ≤ 1000) : CallOk Tryz.prog 28 [.ptr 0 0, .pure (pvR x)] (rs r) fun r' st' => r' = vI .i64 (rruleB r x).1 ∧ st' = rs (rruleB r x).2 := by
  have hrl : (r.rules.map pvR).length = r.rules.length := List.length_map ..
  refine callOk_of false 1 Tryz.func28 rfl rfl (Nat.le_refl _) ?_
  conv => whnf
  repeat (first | (refine rest_vc ?_; conv => whnf) | (refine ⟨by decide, ?_⟩; conv => whnf))
  refine CallIn.tob ((risRow_ok hw x hz)) (k := ?_)
  intro b h1
  cases b <;> (conv => whnf) <;> repeat (first | (refine rest_vc ?_; conv => whnf) | (refine ⟨by decide, ?_⟩; conv => whnf))
  · exact ⟨congrArg (vI .i64) (by unfold rruleB; rw [if_pos h1]), congrArg rs (by unfold rruleB; rw [if_pos h1])⟩
  · have h1' : ¬ isRowB x = false := by simp [h1]
    refine hand_drawL {} [8] (fun _ _ => True) rfl (by kernel_rfl) rfl ?_
    conv => whnf
    repeat (first | (refine rest_vc ?_; conv => whnf) | (refine ⟨by decide, ?_⟩; conv => whnf))
    refine CallIn.to (rfind_ok r.rules.isEmpty r.rules x.t x.k (by omega)) (k := ?_)
    conv => whnf
    repeat (refine ⟨by decide, ?_⟩; conv => whnf)
    obtain ⟨a, ha⟩ : ∃ a, a = rpos x.t x.k r := ⟨_, rfl⟩
    have ha' : fstI (isRw x.t x.k) r.rules 0 = a := ha.symm
    rw [ha']
    refine rest_join 103 (α := Unit) (fun _ => rruleB r x = (0, { r with rules := (rOut r x).take (preN (lsR x) (rOut r x)) ++ [x] ++ (rOut r x).drop (preN (lsR x) (rOut r x)) }))
      (fun _ => [(0, .ptr 0 0), (3, .ptr 1 0), (5, vI .i64 a)]) (fun _ => rs r ++ [.cells 44 [vS x.t, vI .i64 x.k, vS x.x]]) (fun _ => ⟨(by show 1 ≤ 2; omega), rfl, rfl⟩) ?_ ?_
    · have hok : ¬ (decide (rpos x.t x.k r < 0) && decide (r.rules.length ≥ 60)) = true → rruleB r x = (0, { r with rules := (rOut r x).take (preN (lsR x) (rOut r x)) ++ [x] ++ (rOut r x).drop (preN (lsR x) (rOut r x)) }) := fun h => by unfold rruleB; rw [if_neg h1', if_neg h]
      rw [← ha] at hok
      conv => whnf
      repeat (first | (refine rest_vc ?_; conv => whnf) | (refine ⟨by decide, ?_⟩; conv => whnf))
      split <;> rename_i h2 <;> (conv => whnf) <;> repeat (first | (refine rest_vc ?_; conv => whnf) | (refine ⟨by decide, ?_⟩; conv => whnf))
      · intro _
        conv => whnf
        repeat (first | (refine rest_vc ?_; conv => whnf) | (refine ⟨by decide, ?_⟩; conv => whnf))
        split <;> rename_i h3 <;> (conv => whnf) <;> repeat (first | (refine rest_vc ?_; conv => whnf) | (refine ⟨by decide, ?_⟩; conv => whnf))
        · have hl : r.rules.length ≥ 60 := by have : ((r.rules.map pvR).length : Int) ≥ 60 := of_decide_eq_true h3; omega
          have he : rruleB r x = (3, r) := by unfold rruleB; rw [if_neg h1', if_pos (by rw [← ha, h2]; simpa using hl)]
          exact ⟨congrArg (vI .i64) (by rw [he]), congrArg rs (by rw [he])⟩
        · have hl : ¬ r.rules.length ≥ 60 := by have : ¬ ((r.rules.map pvR).length : Int) ≥ 60 := of_decide_eq_false h3; omega
          have he := hok (by simp; omega)
          exact ⟨(), fun _ => 0, he, rfl, ⟨rfl, rfl, rfl, trivial⟩, rfl, fun _ _ => rfl⟩
      · have he := hok (by rw [h2]; simp)
        exact ⟨(), fun _ => 0, he, rfl, ⟨rfl, rfl, rfl, trivial⟩, rfl, fun _ _ => rfl⟩
    · rintro _ he
      refine rest_vc ?_
      conv => whnf
      repeat (first | (refine rest_vc ?_; conv => whnf) | (refine ⟨by decide, ?_⟩; conv => whnf))
      have hR : ∀ i, i ≤ r.rules.length → (((outK r.rules a i).map pvR).length : Nat) ≤ 1000 := fun i hi => by
        have := outK_len r.rules a i; rw [List.length_map]; omega
      refine hand_ghost 6 44 3 rfl ?_
      refine awp_loop (n := 103) (α := Nat) (fun i => i ≤ r.rules.length) (fun i => [(0, .ptr 0 0), (3, .ptr 1 0), (5, vI .i64 a), (6, .vref 2 0), (7, vI .i64 i)])
        (fun i => rs r ++ [.cells 44 [vS x.t, vI .i64 x.k, vS x.x], .vec 0 44 3 ((outK r.rules a i).map pvR).isEmpty ((outK r.rules a i).map pvR)]) (fun i => r.rules.length - i) 0 (fun _ => 0)
        (Nat.zero_le _) rfl ⟨rfl, rfl, rfl, rfl, rfl, trivial⟩ rfl (fun _ _ => rfl) (fun _ => ⟨(by show 1 ≤ 3; omega), rfl, rfl⟩) ?_
      rintro i hi
      conv => whnf
      repeat (first | (refine rest_vc ?_; conv => whnf) | (refine ⟨by decide, ?_⟩; conv => whnf))
      intro _
      conv => whnf
      repeat (first | (refine rest_vc ?_; conv => whnf) | (refine ⟨by decide, ?_⟩; conv => whnf))
      split <;> rename_i h4 <;> (conv => whnf) <;> repeat (first | (refine rest_vc ?_; conv => whnf) | (refine ⟨by decide, ?_⟩; conv => whnf))
      · have h4 := of_decide_eq_true h4
        have hlt : i < r.rules.length := by omega
        have hq : r.rules[i]? = some r.rules[i] := List.getElem?_eq_getElem hlt
        split <;> rename_i h5 <;> (conv => whnf) <;> repeat (first | (refine rest_vc ?_; conv => whnf) | (refine ⟨by decide, ?_⟩; conv => whnf))
        · have h5 : ¬ (i : Int) = a := by simpa using h5
          refine ⟨⟨by omega, by show (i : Int) < ((r.rules.map pvR).length : Int); omega⟩, fun p hp => ?_⟩
          have hp' : (r.rules.map pvR)[i]? = some p := by simpa using hp
          rw [List.getElem?_map, hq] at hp'
          obtain rfl : pvR r.rules[i] = p := Option.some.inj hp'
          conv => whnf
          repeat (first | (refine rest_vc ?_; conv => whnf) | (refine ⟨by decide, ?_⟩; conv => whnf))
          refine ⟨by exact Nat.le_trans (Nat.mul_le_mul_right _ (Nat.add_le_add_right (hR i hi) 1)) (by decide), ?_⟩
          conv => whnf
          repeat (first | (refine rest_vc ?_; conv => whnf) | (refine ⟨by decide, ?_⟩; conv => whnf))
          refine ⟨i + 1, fun o => if o = 2 then 1 else 0, hlt, by omega, rfl, ⟨rfl, rfl, rfl, rfl, congrArg (vI .i64) (succ64 (by omega)), trivial⟩, ?_, fun o ho => by have : o < 1 := ho; simp; omega⟩
          rw [outK_get h5 hq, List.map_append, List.map_cons, List.map_nil, ← isEmpty_snoc ((outK r.rules a i).map pvR).isEmpty]
          rfl
        · have h5 : (i : Int) = a := by simpa using h5
          refine ⟨i + 1, fun _ => 0, hlt, by omega, rfl, ⟨rfl, rfl, rfl, rfl, congrArg (vI .i64) (succ64 (by omega)), trivial⟩, ?_, fun _ _ => rfl⟩
          rw [outK_hit h5]
          rfl
      · have hil : i = r.rules.length := by have : ¬ ((i : Int) < ((r.rules.map pvR).length : Int)) := of_decide_eq_false h4; omega
        subst hil
        obtain ⟨o, ho⟩ : ∃ o, o = outK r.rules a r.rules.length := ⟨_, rfl⟩
        have hol := hR r.rules.length (Nat.le_refl _)
        have hoe : rOut r x = o := by rw [ho, ha]
        rw [hoe] at he
        rw [← ho, List.length_map] at hol
        rw [← ho]
        have hom : (o.map pvR).length = o.length := List.length_map ..
        refine hand_exit 2 103 (α := Unit) (fun _ => True) (fun _ => [(0, .ptr 0 0), (3, .ptr 1 0), (6, .vref 2 0), (8, vI .i64 (preN (lsR x) o : Nat))]) (fun _ => rs r ++ [.cells 44 [vS x.t, vI .i64 x.k, vS x.x], .vec 0 44 3 (o.map pvR).isEmpty (o.map pvR)])
          (fun _ => ⟨(by show 1 ≤ 3; omega), rfl, rfl⟩) ?_ ?_
        rotate_left
        · rintro _ _
          conv => whnf
          repeat (refine ⟨by decide, ?_⟩; conv => whnf)
          have hj := preN_le (lsR x) o
          obtain ⟨j, hjj⟩ : ∃ j, j = preN (lsR x) o := ⟨_, rfl⟩
          rw [← hjj] at he hj ⊢
          refine rest_frc 1 rfl rfl ?_
          refine rest_frz 2 rfl ?_
          refine rest_vc ?_
          conv => whnf
          repeat (first | (refine rest_vc ?_; conv => whnf) | (refine ⟨by decide, ?_⟩; conv => whnf))
          refine hand_drawL { lds := [5] } [4, 7, 11, 14] (fun _ _ => True) rfl (by kernel_rfl) rfl ?_
          conv => whnf
          repeat (first | (refine rest_vc ?_; conv => whnf) | (refine ⟨by decide, ?_⟩; conv => whnf))
          refine ⟨⟨by omega, by show (j : Int) ≤ ((o.map pvR).length : Int); omega⟩, ?_⟩
          conv => whnf
          repeat (first | (refine rest_vc ?_; conv => whnf) | (refine ⟨by decide, ?_⟩; conv => whnf))
          refine ⟨Nat.le_trans (Nat.mul_le_mul_right _ (show List.length _ ≤ 1000 by simp; omega)) (by decide), ?_⟩
          conv => whnf
          repeat (first | (refine rest_vc ?_; conv => whnf) | (refine ⟨by decide, ?_⟩; conv => whnf))
          refine ⟨Nat.le_trans (Nat.mul_le_mul_right _ (show List.length _ + List.length _ ≤ 2000 by simp; omega)) (by decide), ?_⟩
          conv => whnf
          repeat (first | (refine rest_vc ?_; conv => whnf) | (refine ⟨by decide, ?_⟩; conv => whnf))
          refine ⟨⟨by omega, by show (j : Int) ≤ ((o.map pvR).length : Int); omega⟩, ?_⟩
          conv => whnf
          repeat (first | (refine rest_vc ?_; conv => whnf) | (refine ⟨by decide, ?_⟩; conv => whnf))
          refine ⟨Nat.le_trans (Nat.mul_le_mul_right _ (show List.length _ + List.length _ ≤ 3000 by simp; omega)) (by decide), ?_⟩
          conv => whnf
          repeat (refine ⟨by decide, ?_⟩; conv => whnf)
          refine rest_frza 3 rfl ?_
          refine rest_vc ?_
          conv => whnf
          repeat (first | (refine rest_vc ?_; conv => whnf) | (refine ⟨by decide, ?_⟩; conv => whnf))
          refine ⟨congrArg (vI .i64) (by rw [he]), ?_⟩
          rw [he]
          have e2 : List.take (j - 0) (List.drop 0 (o.map pvR)) = (List.take j o).map pvR := by simp [List.map_take]
          have e3 : List.take ((o.map pvR).length - j) (List.drop j (o.map pvR)) = (List.drop j o).map pvR := by
            rw [List.take_of_length_le (by simp), List.map_drop]
          refine rs_rules r _ (b := ((List.take (j - 0) (List.drop 0 (o.map pvR))).isEmpty && [pvR x].isEmpty) && (List.take ((o.map pvR).length - j) (List.drop j (o.map pvR))).isEmpty)
            (ps := (List.take (j - 0) (List.drop 0 (o.map pvR)) ++ [pvR x]) ++ List.take ((o.map pvR).length - j) (List.drop j (o.map pvR))) ?_ ?_
          · rw [e2, e3]; simp
          · rw [show (List.take j o ++ [x] ++ List.drop j o).isEmpty = false by simp]
            simp
        refine awp_loop (n := 103) (α := Nat) (fun i => i ≤ o.length ∧ i + preN (lsR x) (o.drop i) = preN (lsR x) o) (fun i => [(0, .ptr 0 0), (3, .ptr 1 0), (6, .vref 2 0), (8, vI .i64 i)])
          (fun i => rs r ++ [.cells 44 [vS x.t, vI .i64 x.k, vS x.x], .vec 0 44 3 (o.map pvR).isEmpty (o.map pvR)]) (fun i => o.length - i) 0 (fun _ => 0)
          ⟨Nat.zero_le _, by simp⟩ rfl ⟨rfl, rfl, rfl, rfl, trivial⟩ rfl (fun _ _ => rfl) (fun _ => ⟨(by show 1 ≤ 3; omega), rfl, rfl⟩) ?_
        rintro i ⟨hi, hc⟩
        conv => whnf
        repeat (first | (refine rest_vc ?_; conv => whnf) | (refine ⟨by decide, ?_⟩; conv => whnf))
        refine hand_draw [] (fun _ _ => True) rfl (by kernel_rfl) rfl ?_
        conv => whnf
        repeat (first | (refine rest_vc ?_; conv => whnf) | (refine ⟨by decide, ?_⟩; conv => whnf))
        intro _
        conv => whnf
        repeat (first | (refine rest_vc ?_; conv => whnf) | (refine ⟨by decide, ?_⟩; conv => whnf))
        split <;> rename_i h6 <;> (conv => whnf) <;> repeat (first | (refine rest_vc ?_; conv => whnf) | (refine ⟨by decide, ?_⟩; conv => whnf))
        · have hlt : i < o.length := by have : (i : Int) < ((o.map pvR).length : Int) := of_decide_eq_true h6; omega
          have hq : o[i]? = some o[i] := List.getElem?_eq_getElem hlt
          have ld : ∀ p, (o.map pvR)[(i : Int).toNat]? = some p → pvR o[i] = p := fun p hp => by
            have hp' : (o.map pvR)[i]? = some p := by simpa using hp
            rw [List.getElem?_map, hq] at hp'
            exact Option.some.inj hp'
          have bd : 0 ≤ (i : Int) ∧ (i : Int) < ((o.map pvR).length : Int) := ⟨by omega, by omega⟩
          have bd' : (i : Int).toNat < (o.map pvR).length := by omega
          have nxt : lsR x o[i] = true → i + 1 ≤ o.length ∧ (i + 1) + preN (lsR x) (o.drop (i + 1)) = preN (lsR x) o := fun h => ⟨hlt, by rw [← hc, preN_at hq, if_pos h]⟩
          have stp : lsR x o[i] = false → i = preN (lsR x) o := fun h => by rw [← hc, preN_at hq, if_neg (by rw [h]; decide)]
          refine ⟨bd, ?_⟩
          conv => whnf
          repeat (first | (refine rest_vc ?_; conv => whnf) | (refine ⟨by decide, ?_⟩; conv => whnf))
          refine ⟨bd', fun p hp => ?_⟩
          obtain rfl := ld p hp
          conv => whnf
          repeat (first | (refine rest_vc ?_; conv => whnf) | (refine ⟨by decide, ?_⟩; conv => whnf))
          split <;> rename_i h7 <;> (conv => whnf) <;> repeat (first | (refine rest_vc ?_; conv => whnf) | (refine ⟨by decide, ?_⟩; conv => whnf))
          · have hl : lsR x o[i] = true := by unfold lsR; rw [show lsBA o[i].t x.t = true from h7]; rfl
            exact ⟨i + 1, fun _ => 0, nxt hl, by omega, rfl, ⟨rfl, rfl, rfl, congrArg (vI .i64) (succ64 (by omega)), trivial⟩, rfl, fun _ _ => rfl⟩
          · refine ⟨bd, ?_⟩
            conv => whnf
            repeat (first | (refine rest_vc ?_; conv => whnf) | (refine ⟨by decide, ?_⟩; conv => whnf))
            refine ⟨bd', fun p hp => ?_⟩
            obtain rfl := ld p hp
            conv => whnf
            repeat (first | (refine rest_vc ?_; conv => whnf) | (refine ⟨by decide, ?_⟩; conv => whnf))
            split <;> rename_i h8 <;> (conv => whnf) <;> repeat (first | (refine rest_vc ?_; conv => whnf) | (refine ⟨by decide, ?_⟩; conv => whnf))
            · refine ⟨bd, ?_⟩
              conv => whnf
              repeat (first | (refine rest_vc ?_; conv => whnf) | (refine ⟨by decide, ?_⟩; conv => whnf))
              refine ⟨bd', fun p hp => ?_⟩
              obtain rfl := ld p hp
              conv => whnf
              repeat (first | (refine rest_vc ?_; conv => whnf) | (refine ⟨by decide, ?_⟩; conv => whnf))
              split <;> rename_i h9 <;> (conv => whnf) <;> repeat (first | (refine rest_vc ?_; conv => whnf) | (refine ⟨by decide, ?_⟩; conv => whnf))
              · have hl : lsR x o[i] = true := by unfold lsR; rw [show eqBA o[i].t x.t = true from h8, h9]; simp
                exact ⟨i + 1, fun _ => 0, nxt hl, by omega, rfl, ⟨rfl, rfl, rfl, congrArg (vI .i64) (succ64 (by omega)), trivial⟩, rfl, fun _ _ => rfl⟩
              · have hl : lsR x o[i] = false := by unfold lsR; rw [show lsBA o[i].t x.t = false from h7, h9]; simp
                have hi2 := stp hl
                subst hi2
                exact ⟨(), fun _ => 0, trivial, rfl, ⟨rfl, rfl, rfl, rfl, trivial⟩, rfl, fun _ _ => rfl⟩
            · have hl : lsR x o[i] = false := by unfold lsR; rw [show lsBA o[i].t x.t = false from h7, show eqBA o[i].t x.t = false from h8]; simp
              have hi2 := stp hl
              subst hi2
              exact ⟨(), fun _ => 0, trivial, rfl, ⟨rfl, rfl, rfl, rfl, trivial⟩, rfl, fun _ _ => rfl⟩
        · have hil : i = o.length := by have : ¬ ((i : Int) < ((o.map pvR).length : Int)) := of_decide_eq_false h6; omega
          subst hil
          have hi2 : o.length = preN (lsR x) o := by rw [← hc]; simp [preN]
          exact ⟨(), fun _ => 0, trivial, rfl, ⟨rfl, rfl, rfl, congrArg (fun n : Nat => vI .i64 n) hi2, trivial⟩, rfl, fun _ _ => rfl⟩
end Go.Proofs.YtafngalmkblipaaGreatDoor
/- law10: the reference's book: names, protocols that are off, ports. -/
set_option linter.all false
set_option maxHeartbeats 4000000
set_option maxRecDepth 100000
namespace Go.Proofs.YtafngalmkblipaaGreatDoor
open Go Go.RowKit Go.Sy Go.Proofs

theorem byteAt_byS {x : ByteArray} {i : Nat} (h : i < x.size) : byteAt x i = (byS x).getD i 0 := by
  unfold byteAt byS
  rw [List.getD_eq_getElem?_getD, List.getD_eq_getElem?_getD, List.getElem?_map]
  cases x.data.toList[i]? <;> rfl
theorem risName_ok (n : Nm) (ha : (n.a.length : Int) ≤ 2000000) (hx : (n.x.size : Int) ≤ 2000000) : CallOk Tryz.prog 74 [.pure (pvN n)] [] fun r st' => st' = [] ∧ r = vB (isNameB n) := by
  have hl : ((u8s n.a).length : Int) = n.a.length := by rw [u8s_len]
  have bad : sizeBad n = true → vB false = vB (isNameB n) := fun h => congrArg vB (by unfold isNameB; rw [h]; rfl)
  refine callOk_of true 0 Tryz.func74 rfl rfl (Nat.le_refl _) ?_
  conv => whnf
  repeat (first | (refine rest_vc ?_; conv => whnf) | (refine ⟨by decide, ?_⟩; conv => whnf))
  intro _
  conv => whnf
  repeat (first | (refine rest_vc ?_; conv => whnf) | (refine ⟨by decide, ?_⟩; conv => whnf))
  split <;> rename_i h1 <;> (conv => whnf) <;> repeat (first | (refine rest_vc ?_; conv => whnf) | (refine ⟨by decide, ?_⟩; conv => whnf))
  · exact ⟨rfl, bad (by rw [hl] at h1; unfold sizeBad; rw [h1]; rfl)⟩
  · intro _
    conv => whnf
    repeat (first | (refine rest_vc ?_; conv => whnf) | (refine ⟨by decide, ?_⟩; conv => whnf))
    split <;> rename_i h2 <;> (conv => whnf) <;> repeat (first | (refine rest_vc ?_; conv => whnf) | (refine ⟨by decide, ?_⟩; conv => whnf))
    · exact ⟨rfl, bad (by rw [hl] at h2; unfold sizeBad; rw [h2]; simp)⟩
    · split <;> rename_i h3 <;> (conv => whnf) <;> repeat (first | (refine rest_vc ?_; conv => whnf) | (refine ⟨by decide, ?_⟩; conv => whnf))
      · exact ⟨rfl, bad (by unfold sizeBad; rw [h3]; simp)⟩
      · split <;> rename_i h4 <;> (conv => whnf) <;> repeat (first | (refine rest_vc ?_; conv => whnf) | (refine ⟨by decide, ?_⟩; conv => whnf))
        · exact ⟨rfl, bad (by unfold sizeBad; rw [h4]; simp)⟩
        · have hg : sizeBad n = false := by rw [hl] at h1 h2; unfold sizeBad; rw [h1, h2, h3, h4]; rfl
          have hb := byS_len n.x
          refine awp_loop (n := 45) (α := Nat) (fun i => i ≤ n.x.size ∧ fstI badC ((byS n.x).drop i) i = fstI badC (byS n.x) 0) (fun i => [(1, .ptr 0 0), (3, vI .i64 i)])
            (fun _ => [.cells 46 [.pure (.list 1 n.nl (u8s n.a)), vS n.x]]) (fun i => n.x.size - i) 0 (fun _ => 0)
            ⟨Nat.zero_le _, rfl⟩ rfl ⟨rfl, rfl, trivial⟩ rfl (fun _ _ => rfl) (fun _ => ⟨Nat.zero_le _, rfl, rfl⟩) ?_
          rintro i ⟨hi, hc⟩
          conv => whnf
          repeat (first | (refine rest_vc ?_; conv => whnf) | (refine ⟨by decide, ?_⟩; conv => whnf))
          split <;> rename_i h5 <;> (conv => whnf) <;> repeat (first | (refine rest_vc ?_; conv => whnf) | (refine ⟨by decide, ?_⟩; conv => whnf))
          · have hlt : i < n.x.size := by have := of_decide_eq_true h5; omega
            have hq : (byS n.x)[i]? = some ((byS n.x).getD i 0) := by rw [List.getD_eq_getElem?_getD, List.getElem?_eq_getElem (by omega)]; rfl
            have hba : byteAt n.x (i : Int).toNat = (byS n.x).getD i 0 := byteAt_byS hlt
            have hbd : badC ((byS n.x).getD i 0) = true → vB false = vB (isNameB n) := fun h => congrArg vB (by
              unfold isNameB
              rw [hg, ← hc, fstI_at hq, if_pos h]
              simp)
            refine ⟨⟨by omega, by omega⟩, ?_⟩
            conv => whnf
            repeat (first | (refine rest_vc ?_; conv => whnf) | (refine ⟨by decide, ?_⟩; conv => whnf))
            rw [hba]
            split <;> rename_i h6 <;> (conv => whnf) <;> repeat (first | (refine rest_vc ?_; conv => whnf) | (refine ⟨by decide, ?_⟩; conv => whnf))
            · exact ⟨rfl, hbd (by unfold badC; rw [h6]; rfl)⟩
            · refine ⟨⟨by omega, by omega⟩, ?_⟩
              conv => whnf
              repeat (first | (refine rest_vc ?_; conv => whnf) | (refine ⟨by decide, ?_⟩; conv => whnf))
              rw [hba]
              split <;> rename_i h7 <;> (conv => whnf) <;> repeat (first | (refine rest_vc ?_; conv => whnf) | (refine ⟨by decide, ?_⟩; conv => whnf))
              · exact ⟨rfl, hbd (by unfold badC; rw [h7]; simp)⟩
              · refine ⟨i + 1, fun _ => 0, ⟨hlt, ?_⟩, by omega, rfl, ⟨rfl, congrArg (vI .i64) (succ64 (by omega)), trivial⟩, rfl, fun _ _ => rfl⟩
                rw [← hc, fstI_at hq, if_neg (by unfold badC; rw [h6, h7]; decide)]
          · have hge : n.x.size ≤ i := by have := of_decide_eq_false h5; omega
            exact ⟨rfl, congrArg vB (by unfold isNameB; rw [hg, ← hc, fstI_end (by omega)]; rfl)⟩

def leBA (a b : ByteArray) : Bool := Op.bytesLess a.toList b.toList || a.toList == b.toList
/-- A name put among the first ones of some; whether it was. -/
def nmIns (n : Nm) (l : List Nm) : Nat → List Nm × Bool
  | 0 => ([], false)
  | i + 1 => match l[i]? with
    | none => nmIns n l i
    | some y =>
      if (!(nmIns n l i).2 && leBA (keyN n) (keyN y)) = true then
        (if eqBA (keyN n) (keyN y) then (nmIns n l i).1 ++ [n] else (nmIns n l i).1 ++ [n] ++ [y], true)
      else (if eqBA (keyN n) (keyN y) then (nmIns n l i).1 else (nmIns n l i).1 ++ [y], (nmIns n l i).2)
theorem nmIns_len (n : Nm) (l : List Nm) : ∀ i, (nmIns n l i).1.length ≤ 2 * i
  | 0 => Nat.le_refl _
  | i + 1 => by
    have := nmIns_len n l i
    unfold nmIns
    split
    · omega
    · split <;> simp only <;> split <;> simp <;> omega
def own (n : Nm) : Nm := { n with nl := n.a.isEmpty }
def nmOut (n : Nm) (l : List Nm) : List Nm := if (nmIns n l l.length).2 then (nmIns n l l.length).1 else (nmIns n l l.length).1 ++ [n]
def rnameB (r : Rst) (n : Nm) : Int × Rst :=
  if isNameB n = false then (1, r) else
  if (nmOut (own n) r.names).length > 60 then (3, r) else (0, { r with names := nmOut (own n) r.names })

theorem rs_names (r : Rst) (l : List Nm) {b : Bool} {ps : List PV} (hp : ps = l.map pvN) (hb : b = l.isEmpty) : [Ob.cells 78 ((rbC r).take 4 ++ [.pure (.list 2 b ps)])] = rs { r with names := l } := by
  subst hp hb
  rfl
theorem rName_ok (r : Rst) (n : Nm) (ha : (n.a.length : Int) ≤ 2000000) (hx : (n.x.size : Int) ≤ 2000000) (hr : (r.names.length : Int) ≤ 1000) :
    CallOk Tryz.prog 39 [.ptr 0 0, .pure (pvN n)] (rs r) fun r' st' => r' = vI .i64 (rnameB r n).1 ∧ st' = rs (rnameB r n).2 := by
  refine callOk_of false 1 Tryz.func39 rfl rfl (Nat.le_refl _) ?_
  conv => whnf
  repeat (first | (refine rest_vc ?_; conv => whnf) | (refine ⟨by decide, ?_⟩; conv => whnf))
  refine CallIn.tob ((risName_ok n ha hx)) (k := ?_)
  intro b h1
  cases b <;> (conv => whnf) <;> repeat (first | (refine rest_vc ?_; conv => whnf) | (refine ⟨by decide, ?_⟩; conv => whnf))
  · have he : rnameB r n = (1, r) := by unfold rnameB; rw [if_pos h1]
    exact ⟨congrArg (vI .i64) (by rw [he]), congrArg rs (by rw [he])⟩
  · have h1' : ¬ isNameB n = false := by simp [h1]
    refine ⟨Nat.le_trans (Nat.mul_le_mul_right _ (show List.length _ ≤ 2000000 by rw [u8s_len]; omega)) (by decide), ?_⟩
    conv => whnf
    repeat (refine ⟨by decide, ?_⟩; conv => whnf)
    refine rest_frza 2 rfl ?_
    refine rest_drop 2 ?_
    refine rest_vc ?_
    conv => whnf
    repeat (first | (refine rest_vc ?_; conv => whnf) | (refine ⟨by decide, ?_⟩; conv => whnf))
    obtain ⟨m, hm⟩ : ∃ m, m = own n := ⟨_, rfl⟩
    have hnl : (u8s n.a).isEmpty = m.nl := by rw [hm]; show _ = n.a.isEmpty; cases n.a <;> rfl
    have hma : n.a = m.a := by rw [hm]; rfl
    have hmx : n.x = m.x := by rw [hm]; rfl
    refine hand_ghost 5 46 2 rfl ?_
    refine awp_loop (n := 81) (α := Nat) (fun i => i ≤ r.names.length) (fun i => [(0, .ptr 0 0), (3, .ptr 1 0), (5, .vref 3 0), (6, vB (nmIns m r.names i).2), (7, vI .i64 i)])
      (fun i => rs r ++ [.cells 46 [.pure (.list 1 m.nl (u8s m.a)), vS m.x], .gone, .vec 0 46 2 ((nmIns m r.names i).1.map pvN).isEmpty ((nmIns m r.names i).1.map pvN)]) (fun i => r.names.length - i) 0 (fun _ => 0)
      (Nat.zero_le _) rfl ⟨rfl, rfl, rfl, rfl, rfl, trivial⟩ (by
        refine Eq.trans (b := rs r ++ [Ob.cells 46 [.pure (.list 1 (u8s n.a).isEmpty (u8s n.a)), vS n.x], .gone, .vec 0 46 2 true []]) rfl ?_
        rw [hnl, hma, hmx]
        rfl) (fun _ _ => rfl) (fun _ => ⟨(by show 1 ≤ 4; omega), rfl, rfl⟩) ?_
    have hrl : (r.names.map pvN).length = r.names.length := List.length_map ..
    rintro i hi
    conv => whnf
    repeat (first | (refine rest_vc ?_; conv => whnf) | (refine ⟨by decide, ?_⟩; conv => whnf))
    intro _
    conv => whnf
    repeat (first | (refine rest_vc ?_; conv => whnf) | (refine ⟨by decide, ?_⟩; conv => whnf))
    split <;> rename_i h2 <;> (conv => whnf) <;> repeat (first | (refine rest_vc ?_; conv => whnf) | (refine ⟨by decide, ?_⟩; conv => whnf))
    · have hlt : i < r.names.length := by have : (i : Int) < ((r.names.map pvN).length : Int) := of_decide_eq_true h2; omega
      have hq : r.names[i]? = some r.names[i] := List.getElem?_eq_getElem hlt
      obtain ⟨y, hy⟩ : ∃ y, y = r.names[i] := ⟨_, rfl⟩
      rw [← hy] at hq
      have ld : ∀ p, (r.names.map pvN)[(i : Int).toNat]? = some p → pvN y = p := fun p hp => by
        have hp' : (r.names.map pvN)[i]? = some p := by simpa using hp
        rw [List.getElem?_map, hq] at hp'
        exact Option.some.inj hp'
      have bd : 0 ≤ (i : Int) ∧ (i : Int) < ((r.names.map pvN).length : Int) := ⟨by omega, by omega⟩
      have hol := nmIns_len m r.names i
      have hs : nmIns m r.names (i + 1) = if (!(nmIns m r.names i).2 && leBA (keyN m) (keyN y)) = true then
          (if eqBA (keyN m) (keyN y) then (nmIns m r.names i).1 ++ [m] else (nmIns m r.names i).1 ++ [m] ++ [y], true)
        else (if eqBA (keyN m) (keyN y) then (nmIns m r.names i).1 else (nmIns m r.names i).1 ++ [y], (nmIns m r.names i).2) := by
        rw [nmIns, hq]
      generalize hp : nmIns m r.names i = p at *
      obtain ⟨o, d⟩ := p
      simp only at hol hs ⊢
      have hol' : (o.map pvN).length ≤ 2000 := by rw [List.length_map]; omega
      cases d with
      | true =>
        refine hand_draw [] (fun _ _ => True) rfl (by kernel_rfl) rfl ?_
        conv => whnf
        repeat (first | (refine rest_vc ?_; conv => whnf) | (refine ⟨by decide, ?_⟩; conv => whnf))
        refine hand_draw [] (fun _ _ => True) rfl (by kernel_rfl) rfl ?_
        conv => whnf
        repeat (first | (refine rest_vc ?_; conv => whnf) | (refine ⟨by decide, ?_⟩; conv => whnf))
        refine ⟨⟨m.a, rfl⟩, fun l hl => ?_⟩
        obtain rfl := u8s_inj hl
        conv => whnf
        repeat (first | (refine rest_vc ?_; conv => whnf) | (refine ⟨by decide, ?_⟩; conv => whnf))
        refine ⟨bd, fun p hp => ?_⟩
        obtain rfl := ld p hp
        conv => whnf
        repeat (first | (refine rest_vc ?_; conv => whnf) | (refine ⟨by decide, ?_⟩; conv => whnf))
        refine ⟨⟨y.a, rfl⟩, fun l hl => ?_⟩
        obtain rfl := u8s_inj hl
        conv => whnf
        repeat (first | (refine rest_vc ?_; conv => whnf) | (refine ⟨by decide, ?_⟩; conv => whnf))
        split <;> rename_i h7 <;> (conv => whnf) <;> repeat (first | (refine rest_vc ?_; conv => whnf) | (refine ⟨by decide, ?_⟩; conv => whnf))
        · refine ⟨bd, fun p hp => ?_⟩
          obtain rfl := ld p hp
          conv => whnf
          repeat (first | (refine rest_vc ?_; conv => whnf) | (refine ⟨by decide, ?_⟩; conv => whnf))
          refine ⟨by exact Nat.le_trans (Nat.mul_le_mul_right _ (Nat.add_le_add_right hol' 1)) (by decide), ?_⟩
          conv => whnf
          repeat (first | (refine rest_vc ?_; conv => whnf) | (refine ⟨by decide, ?_⟩; conv => whnf))
          have he : nmIns m r.names (i + 1) = (o ++ [y], true) := by
            rw [hs, if_neg (by simp)]
            have : eqBA (keyN m) (keyN y) = false := by have h7 : (!((keyN m).toList == (keyN y).toList)) = true := h7; simpa [eqBA] using h7
            simp [this]
          refine ⟨i + 1, fun o => if o = 3 then 1 else 0, hlt, by omega, rfl, ⟨rfl, rfl, rfl, congrArg vB (by rw [he]), congrArg (vI .i64) (succ64 (by omega)), trivial⟩, ?_, fun o ho => by have : o < 1 := ho; simp; omega⟩
          rw [he]
          simp only [List.map_append, List.map_cons, List.map_nil]
          rw [← isEmpty_snoc ((o.map pvN).isEmpty)]
          rfl
        · have he : nmIns m r.names (i + 1) = (o, true) := by
            rw [hs, if_neg (by simp)]
            have : eqBA (keyN m) (keyN y) = true := by have h7 : (!((keyN m).toList == (keyN y).toList)) = false := h7; simpa [eqBA] using h7
            simp [this]
          refine ⟨i + 1, fun _ => 0, hlt, by omega, rfl, ⟨rfl, rfl, rfl, congrArg vB (by rw [he]), congrArg (vI .i64) (succ64 (by omega)), trivial⟩, ?_, fun _ _ => rfl⟩
          rw [he]
          rfl
          
      | false =>
        refine hand_draw [] (fun _ _ => True) rfl (by kernel_rfl) rfl ?_
        conv => whnf
        repeat (first | (refine rest_vc ?_; conv => whnf) | (refine ⟨by decide, ?_⟩; conv => whnf))
        refine ⟨⟨m.a, rfl⟩, fun l hl => ?_⟩
        obtain rfl := u8s_inj hl
        conv => whnf
        repeat (first | (refine rest_vc ?_; conv => whnf) | (refine ⟨by decide, ?_⟩; conv => whnf))
        refine ⟨bd, fun p hp => ?_⟩
        obtain rfl := ld p hp
        conv => whnf
        repeat (first | (refine rest_vc ?_; conv => whnf) | (refine ⟨by decide, ?_⟩; conv => whnf))
        refine ⟨⟨y.a, rfl⟩, fun l hl => ?_⟩
        obtain rfl := u8s_inj hl
        conv => whnf
        repeat (first | (refine rest_vc ?_; conv => whnf) | (refine ⟨by decide, ?_⟩; conv => whnf))
        split <;> rename_i h6 <;> (conv => whnf) <;> repeat (first | (refine rest_vc ?_; conv => whnf) | (refine ⟨by decide, ?_⟩; conv => whnf))
        · refine ⟨by exact Nat.le_trans (Nat.mul_le_mul_right _ (Nat.add_le_add_right hol' 1)) (by decide), ?_⟩
          conv => whnf
          repeat (first | (refine rest_vc ?_; conv => whnf) | (refine ⟨by decide, ?_⟩; conv => whnf))
          have hol2 : (o.map pvN ++ [pvN m]).length ≤ 2001 := by simp only [List.length_append, List.length_cons, List.length_nil]; omega
          refine hand_draw [] (fun _ _ => True) rfl (by kernel_rfl) rfl ?_
          conv => whnf
          repeat (first | (refine rest_vc ?_; conv => whnf) | (refine ⟨by decide, ?_⟩; conv => whnf))
          refine ⟨⟨m.a, rfl⟩, fun l hl => ?_⟩
          obtain rfl := u8s_inj hl
          conv => whnf
          repeat (first | (refine rest_vc ?_; conv => whnf) | (refine ⟨by decide, ?_⟩; conv => whnf))
          refine ⟨bd, fun p hp => ?_⟩
          obtain rfl := ld p hp
          conv => whnf
          repeat (first | (refine rest_vc ?_; conv => whnf) | (refine ⟨by decide, ?_⟩; conv => whnf))
          refine ⟨⟨y.a, rfl⟩, fun l hl => ?_⟩
          obtain rfl := u8s_inj hl
          conv => whnf
          repeat (first | (refine rest_vc ?_; conv => whnf) | (refine ⟨by decide, ?_⟩; conv => whnf))
          split <;> rename_i h7 <;> (conv => whnf) <;> repeat (first | (refine rest_vc ?_; conv => whnf) | (refine ⟨by decide, ?_⟩; conv => whnf))
          · refine ⟨bd, fun p hp => ?_⟩
            obtain rfl := ld p hp
            conv => whnf
            repeat (first | (refine rest_vc ?_; conv => whnf) | (refine ⟨by decide, ?_⟩; conv => whnf))
            refine ⟨by exact Nat.le_trans (Nat.mul_le_mul_right _ (Nat.add_le_add_right hol2 1)) (by decide), ?_⟩
            conv => whnf
            repeat (first | (refine rest_vc ?_; conv => whnf) | (refine ⟨by decide, ?_⟩; conv => whnf))
            have he : nmIns m r.names (i + 1) = ((o ++ [m]) ++ [y], true) := by
              rw [hs, if_pos (by rw [show leBA (keyN m) (keyN y) = true from h6]; rfl)]
              have : eqBA (keyN m) (keyN y) = false := by have h7 : (!((keyN m).toList == (keyN y).toList)) = true := h7; simpa [eqBA] using h7
              simp [this]
            refine ⟨i + 1, fun o => if o = 3 then 2 else 0, hlt, by omega, rfl, ⟨rfl, rfl, rfl, congrArg vB (by rw [he]), congrArg (vI .i64) (succ64 (by omega)), trivial⟩, ?_, fun o ho => by have : o < 1 := ho; simp; omega⟩
            rw [he]
            simp only [List.map_append, List.map_cons, List.map_nil]
            rw [← isEmpty_snoc ((o.map pvN).isEmpty && [pvN m].isEmpty)]
            rfl
          · have he : nmIns m r.names (i + 1) = ((o ++ [m]), true) := by
              rw [hs, if_pos (by rw [show leBA (keyN m) (keyN y) = true from h6]; rfl)]
              have : eqBA (keyN m) (keyN y) = true := by have h7 : (!((keyN m).toList == (keyN y).toList)) = false := h7; simpa [eqBA] using h7
              simp [this]
            refine ⟨i + 1, fun o => if o = 3 then 1 else 0, hlt, by omega, rfl, ⟨rfl, rfl, rfl, congrArg vB (by rw [he]), congrArg (vI .i64) (succ64 (by omega)), trivial⟩, ?_, fun o ho => by have : o < 1 := ho; simp; omega⟩
            rw [he]
            simp only [List.map_append, List.map_cons, List.map_nil, ← isEmpty_snoc (o.map pvN).isEmpty]
            rfl
        · refine hand_draw [] (fun _ _ => True) rfl (by kernel_rfl) rfl ?_
          conv => whnf
          repeat (first | (refine rest_vc ?_; conv => whnf) | (refine ⟨by decide, ?_⟩; conv => whnf))
          refine ⟨⟨m.a, rfl⟩, fun l hl => ?_⟩
          obtain rfl := u8s_inj hl
          conv => whnf
          repeat (first | (refine rest_vc ?_; conv => whnf) | (refine ⟨by decide, ?_⟩; conv => whnf))
          refine ⟨bd, fun p hp => ?_⟩
          obtain rfl := ld p hp
          conv => whnf
          repeat (first | (refine rest_vc ?_; conv => whnf) | (refine ⟨by decide, ?_⟩; conv => whnf))
          refine ⟨⟨y.a, rfl⟩, fun l hl => ?_⟩
          obtain rfl := u8s_inj hl
          conv => whnf
          repeat (first | (refine rest_vc ?_; conv => whnf) | (refine ⟨by decide, ?_⟩; conv => whnf))
          split <;> rename_i h7 <;> (conv => whnf) <;> repeat (first | (refine rest_vc ?_; conv => whnf) | (refine ⟨by decide, ?_⟩; conv => whnf))
          · refine ⟨bd, fun p hp => ?_⟩
            obtain rfl := ld p hp
            conv => whnf
            repeat (first | (refine rest_vc ?_; conv => whnf) | (refine ⟨by decide, ?_⟩; conv => whnf))
            refine ⟨by exact Nat.le_trans (Nat.mul_le_mul_right _ (Nat.add_le_add_right hol' 1)) (by decide), ?_⟩
            conv => whnf
            repeat (first | (refine rest_vc ?_; conv => whnf) | (refine ⟨by decide, ?_⟩; conv => whnf))
            have he : nmIns m r.names (i + 1) = (o ++ [y], false) := by
              rw [hs, if_neg (by rw [show leBA (keyN m) (keyN y) = false from h6]; decide)]
              have : eqBA (keyN m) (keyN y) = false := by have h7 : (!((keyN m).toList == (keyN y).toList)) = true := h7; simpa [eqBA] using h7
              simp [this]
            refine ⟨i + 1, fun o => if o = 3 then 1 else 0, hlt, by omega, rfl, ⟨rfl, rfl, rfl, congrArg vB (by rw [he]), congrArg (vI .i64) (succ64 (by omega)), trivial⟩, ?_, fun o ho => by have : o < 1 := ho; simp; omega⟩
            rw [he]
            simp only [List.map_append, List.map_cons, List.map_nil]
            rw [← isEmpty_snoc ((o.map pvN).isEmpty)]
            rfl
          · have he : nmIns m r.names (i + 1) = (o, false) := by
              rw [hs, if_neg (by rw [show leBA (keyN m) (keyN y) = false from h6]; decide)]
              have : eqBA (keyN m) (keyN y) = true := by have h7 : (!((keyN m).toList == (keyN y).toList)) = false := h7; simpa [eqBA] using h7
              simp [this]
            refine ⟨i + 1, fun _ => 0, hlt, by omega, rfl, ⟨rfl, rfl, rfl, congrArg vB (by rw [he]), congrArg (vI .i64) (succ64 (by omega)), trivial⟩, ?_, fun _ _ => rfl⟩
            rw [he]
            rfl
            
    · have hil : i = r.names.length := by have : ¬ (i : Int) < ((r.names.map pvN).length : Int) := of_decide_eq_false h2; omega
      subst hil
      have hol := nmIns_len m r.names r.names.length
      generalize hp : nmIns m r.names r.names.length = p at *
      obtain ⟨o, d⟩ := p
      simp only at hol ⊢
      have hol' : (o.map pvN).length ≤ 2000 := by rw [List.length_map]; omega
      cases d with
      | true =>
        conv => whnf
        repeat (first | (refine rest_vc ?_; conv => whnf) | (refine ⟨by decide, ?_⟩; conv => whnf))
        intro _
        conv => whnf
        repeat (first | (refine rest_vc ?_; conv => whnf) | (refine ⟨by decide, ?_⟩; conv => whnf))
        have hout : nmOut m r.names = o := by unfold nmOut; rw [hp]; rfl
        split <;> rename_i h8 <;> (conv => whnf) <;> repeat (refine ⟨by decide, ?_⟩; conv => whnf)
        · refine rest_vc ?_
          conv => whnf
          repeat (first | (refine rest_vc ?_; conv => whnf) | (refine ⟨by decide, ?_⟩; conv => whnf))
          have he : rnameB r n = (3, r) := by
            unfold rnameB; rw [if_neg h1', ← hm, hout, if_pos]
            have h8 : ((o.map pvN).length : Int) > 60 := of_decide_eq_true h8
            simp at h8 ⊢; omega
          exact ⟨congrArg (vI .i64) (by rw [he]), congrArg rs (by rw [he])⟩
        · have he : rnameB r n = (0, { r with names := o }) := by
            unfold rnameB; rw [if_neg h1', ← hm, hout, if_neg]
            have h8 : ¬ ((o.map pvN).length : Int) > 60 := of_decide_eq_false h8
            simp at h8 ⊢; omega
          refine rest_vc ?_
          conv => whnf
          repeat (refine ⟨by decide, ?_⟩; conv => whnf)
          refine rest_frza 3 rfl ?_
          refine rest_vc ?_
          conv => whnf
          repeat (first | (refine rest_vc ?_; conv => whnf) | (refine ⟨by decide, ?_⟩; conv => whnf))
          refine ⟨congrArg (vI .i64) (by rw [he]), ?_⟩
          rw [he]
          refine rs_names r _ (b := (o.map pvN).isEmpty) (ps := o.map pvN) ?_ ?_
          · rfl
          · exact emp_map _ _
      | false =>
        conv => whnf
        repeat (first | (refine rest_vc ?_; conv => whnf) | (refine ⟨by decide, ?_⟩; conv => whnf))
        refine ⟨by exact Nat.le_trans (Nat.mul_le_mul_right _ (Nat.add_le_add_right hol' 1)) (by decide), ?_⟩
        conv => whnf
        repeat (first | (refine rest_vc ?_; conv => whnf) | (refine ⟨by decide, ?_⟩; conv => whnf))
        intro _
        conv => whnf
        repeat (first | (refine rest_vc ?_; conv => whnf) | (refine ⟨by decide, ?_⟩; conv => whnf))
        have hout : nmOut m r.names = o ++ [m] := by unfold nmOut; rw [hp]; rfl
        split <;> rename_i h8 <;> (conv => whnf) <;> repeat (refine ⟨by decide, ?_⟩; conv => whnf)
        · refine rest_vc ?_
          conv => whnf
          repeat (first | (refine rest_vc ?_; conv => whnf) | (refine ⟨by decide, ?_⟩; conv => whnf))
          have he : rnameB r n = (3, r) := by
            unfold rnameB; rw [if_neg h1', ← hm, hout, if_pos]
            have h8 : ((o.map pvN ++ [pvN m]).length : Int) > 60 := of_decide_eq_true h8
            simp at h8 ⊢; omega
          exact ⟨congrArg (vI .i64) (by rw [he]), congrArg rs (by rw [he])⟩
        · have he : rnameB r n = (0, { r with names := o ++ [m] }) := by
            unfold rnameB; rw [if_neg h1', ← hm, hout, if_neg]
            have h8 : ¬ ((o.map pvN ++ [pvN m]).length : Int) > 60 := of_decide_eq_false h8
            simp at h8 ⊢; omega
          refine rest_vc ?_
          conv => whnf
          repeat (refine ⟨by decide, ?_⟩; conv => whnf)
          refine rest_frza 3 rfl ?_
          refine rest_vc ?_
          conv => whnf
          repeat (first | (refine rest_vc ?_; conv => whnf) | (refine ⟨by decide, ?_⟩; conv => whnf))
          refine ⟨congrArg (vI .i64) (by rw [he]), ?_⟩
          rw [he]
          refine rs_names r _ (b := (o.map pvN).isEmpty && [pvN m].isEmpty) (ps := o.map pvN ++ [pvN m]) ?_ ?_
          · simp
          · simp
end Go.Proofs.YtafngalmkblipaaGreatDoor
/- law10: the reference's ports. -/
set_option linter.all false
set_option maxHeartbeats 4000000
set_option maxRecDepth 100000
namespace Go.Proofs.YtafngalmkblipaaGreatDoor
open Go Go.RowKit Go.Sy Go.Proofs

def offAny (r : Rst) (x : ByteArray) : Bool := r.off.any fun y => eqBA y x
def rp1 (r : Rst) (l : List Rw) (t : ByteArray) (k : Int) : Option ByteArray :=
  if fstI (isRw t k) l 0 < 0 then none else
  match l[(fstI (isRw t k) l 0).toNat]? with
  | none => none
  | some q => if offAny r q.x = true then none else some q.x
def rproO (r : Rst) (t : ByteArray) (k : Int) : Option ByteArray := match rp1 r r.rules t k with | some p => some p | none => rp1 r r.rows t k
abbrev rproB (r : Rst) (t : ByteArray) (k : Int) : ByteArray := (rproO r t k).getD noS

theorem rp1_some {r : Rst} {l : List Rw} {t : ByteArray} {k : Int} {x : ByteArray} (h : rp1 r l t k = some x) : 0 ≤ fstI (isRw t k) l 0 ∧ ∃ q, l[(fstI (isRw t k) l 0).toNat]? = some q ∧ q.x = x := by
  unfold rp1 at h
  split at h
  · cases h
  · split at h
    · cases h
    · rename_i q hq
      split at h
      · cases h
      · exact ⟨by omega, q, hq, Option.some.inj h⟩

theorem eqBA_refl (a : ByteArray) : eqBA a a = true := by unfold eqBA; exact beq_self_eq_true _
def pickS (a b : ByteArray) : ByteArray := if eqBA a noS = true then b else a
def rportB (r : Rst) (t : ByteArray) (x y : Int) (how : ByteArray) : Option ByteArray :=
  if (how.toList == sLower.toList) = true then some (if y < x then pickS (rproB r t y) (rproB r t x) else pickS (rproB r t x) (rproB r t y)) else
  if (how.toList == sSource.toList) = true then some (pickS (rproB r t x) (rproB r t y)) else
  if (how.toList == sDest.toList) = true then some (pickS (rproB r t y) (rproB r t x)) else
  if (how.toList == sBoth.toList) = true then some (if eqBA (rproB r t x) (rproB r t y) = true then pickS (rproB r t x) (rproB r t y) else noS)
  else none
abbrev rportT (o : Option ByteArray) : SV := match o with | none => .tup [vS noS, vB false, vI .i64 1] | some v => .tup [vS v, vB (!eqBA v noS), vI .i64 0]

end Go.Proofs.YtafngalmkblipaaGreatDoor
/- law10: the reference's protocols that are off. -/
set_option linter.all false
set_option maxHeartbeats 4000000
set_option maxRecDepth 100000
namespace Go.Proofs.YtafngalmkblipaaGreatDoor
open Go Go.RowKit Go.Sy Go.Proofs

/-- Texts in ascending order. -/
def srtS (l : List ByteArray) : List ByteArray := l.mergeSort leBA
def SortS (f : FuncId) : Prop := ∀ (v : Nat) (nl : Bool) (l : List ByteArray), l ≠ [] → l.length ≤ 100000 → CallOk Tryz.prog f [.vref 0 v] [.vec v 9 1 nl (l.map pvB)] fun r st' => r = .tup [] ∧ st' = [.vec v 9 1 nl ((srtS l).map pvB)]

def notS (s x : ByteArray) : Bool := !eqBA x s
def rturnO (r : Rst) (s : ByteArray) (on : Bool) : List ByteArray := if on = true then r.off.filter (notS s) else srtS (r.off.filter (notS s) ++ [s])
def rturnB (r : Rst) (s : ByteArray) (on : Bool) : Int × Rst :=
  if isWordB s = false then (1, r) else
  if (rturnO r s on).length > 30 then (3, r) else (0, { r with off := rturnO r s on })

theorem rs_off (r : Rst) (l : List ByteArray) {b : Bool} {ps : List PV} (hp : ps = l.map pvB) (hb : b = l.isEmpty) : [Ob.cells 78 ((rbC r).take 3 ++ .pure (.list 1 b ps) :: (rbC r).drop 4)] = rs { r with off := l } := by
  subst hp hb
  rfl
theorem filter_succ {α : Type} (f : α → Bool) {l : List α} {i : Nat} {x : α} (h : l[i]? = some x) : (l.take (i + 1)).filter f = (l.take i).filter f ++ if f x then [x] else [] := by
  rw [List.take_add_one, h, List.filter_append]
  simp [List.filter]
  cases f x <;> rfl

theorem srtS_emp (o : List ByteArray) (s : ByteArray) : (srtS (o ++ [s])).isEmpty = false := by
  have h : (srtS (o ++ [s])).length = (o ++ [s]).length := by unfold srtS; exact List.length_mergeSort _
  cases hc : srtS (o ++ [s]) with
  | nil => rw [hc] at h; simp at h
  | cons _ _ => rfl

theorem rTurn_ok (hw : IsW 69) (hso : SortS 72) (r : Rst) (s : ByteArray) (on : Bool) (hz : (s.size : Int) ≤ 2000000) (hr : (r.off.length : Int) ≤ 1000) :
    CallOk Tryz.prog 36 [.ptr 0 0, vS s, vB on] (rs r) fun r' st' => r' = vI .i64 (rturnB r s on).1 ∧ st' = rs (rturnB r s on).2 := by
  refine callOk_of false 1 Tryz.func36 rfl rfl (Nat.le_refl _) ?_
  conv => whnf
  repeat (first | (refine rest_vc ?_; conv => whnf) | (refine ⟨by decide, ?_⟩; conv => whnf))
  refine CallIn.tob ((hw s hz)) (k := ?_)
  intro b h1
  cases b <;> (conv => whnf) <;> repeat (first | (refine rest_vc ?_; conv => whnf) | (refine ⟨by decide, ?_⟩; conv => whnf))
  · have he : rturnB r s on = (1, r) := by unfold rturnB; rw [if_pos h1]
    exact ⟨congrArg (vI .i64) (by rw [he]), congrArg rs (by rw [he])⟩
  · have h1' : ¬ isWordB s = false := by simp [h1]
    have hrl : (r.off.map pvB).length = r.off.length := List.length_map ..
    have hol : ∀ i, (((r.off.take i).filter (notS s)).map pvB).length ≤ 1000 := fun i => by
      rw [List.length_map]
      have := List.length_filter_le (notS s) (r.off.take i)
      have : (r.off.take i).length ≤ r.off.length := by rw [List.length_take]; omega
      omega
    refine hand_ghost 7 9 1 rfl ?_
    refine awp_loop (n := 55) (α := Nat) (fun i => i ≤ r.off.length) (fun i => [(0, .ptr 0 0), (1, vS s), (2, vB on), (7, .vref 1 0), (8, vI .i64 i)])
      (fun i => rs r ++ [.vec 0 9 1 (((r.off.take i).filter (notS s)).map pvB).isEmpty (((r.off.take i).filter (notS s)).map pvB)]) (fun i => r.off.length - i) 0 (fun _ => 0)
      (Nat.zero_le _) rfl ⟨rfl, rfl, rfl, rfl, rfl, trivial⟩ rfl (fun _ _ => rfl) (fun _ => ⟨(by show 1 ≤ 2; omega), rfl, rfl⟩) ?_
    rintro i hi
    conv => whnf
    repeat (first | (refine rest_vc ?_; conv => whnf) | (refine ⟨by decide, ?_⟩; conv => whnf))
    intro _
    conv => whnf
    repeat (first | (refine rest_vc ?_; conv => whnf) | (refine ⟨by decide, ?_⟩; conv => whnf))
    split <;> rename_i h2 <;> (conv => whnf) <;> repeat (first | (refine rest_vc ?_; conv => whnf) | (refine ⟨by decide, ?_⟩; conv => whnf))
    · have hlt : i < r.off.length := by have : (i : Int) < ((r.off.map pvB).length : Int) := of_decide_eq_true h2; omega
      have hq : r.off[i]? = some r.off[i] := List.getElem?_eq_getElem hlt
      obtain ⟨y, hy⟩ : ∃ y, y = r.off[i] := ⟨_, rfl⟩
      rw [← hy] at hq
      have ld : ∀ p, (r.off.map pvB)[(i : Int).toNat]? = some p → pvB y = p := fun p hp => by
        have hp' : (r.off.map pvB)[i]? = some p := by simpa using hp
        rw [List.getElem?_map, hq] at hp'
        exact Option.some.inj hp'
      have bd : 0 ≤ (i : Int) ∧ (i : Int) < ((r.off.map pvB).length : Int) := ⟨by omega, by omega⟩
      have hs := filter_succ (notS s) hq
      have hi1 := hol i
      generalize hoo : (r.off.take i).filter (notS s) = o at *
      refine ⟨bd, fun p hp => ?_⟩
      obtain rfl := ld p hp
      conv => whnf
      repeat (first | (refine rest_vc ?_; conv => whnf) | (refine ⟨by decide, ?_⟩; conv => whnf))
      split <;> rename_i h3 <;> (conv => whnf) <;> repeat (first | (refine rest_vc ?_; conv => whnf) | (refine ⟨by decide, ?_⟩; conv => whnf))
      · refine ⟨bd, fun p hp => ?_⟩
        obtain rfl := ld p hp
        conv => whnf
        repeat (first | (refine rest_vc ?_; conv => whnf) | (refine ⟨by decide, ?_⟩; conv => whnf))
        refine ⟨by exact Nat.le_trans (Nat.mul_le_mul_right _ (Nat.add_le_add_right hi1 1)) (by decide), ?_⟩
        conv => whnf
        repeat (first | (refine rest_vc ?_; conv => whnf) | (refine ⟨by decide, ?_⟩; conv => whnf))
        have he : (r.off.take (i + 1)).filter (notS s) = o ++ [y] := by rw [hs, if_pos (show notS s y = true from h3)]
        refine ⟨i + 1, fun o => if o = 1 then 1 else 0, hlt, by omega, rfl, ⟨rfl, rfl, rfl, rfl, congrArg (vI .i64) (succ64 (by omega)), trivial⟩, ?_, fun o ho => by have : o < 1 := ho; simp; omega⟩
        rw [he, List.map_append, List.map_cons, List.map_nil, ← isEmpty_snoc (o.map pvB).isEmpty]
        rfl
      · have he : (r.off.take (i + 1)).filter (notS s) = o := by rw [hs, if_neg (by rw [show notS s y = false from h3]; decide), List.append_nil]
        refine ⟨i + 1, fun _ => 0, hlt, by omega, rfl, ⟨rfl, rfl, rfl, rfl, congrArg (vI .i64) (succ64 (by omega)), trivial⟩, ?_, fun _ _ => rfl⟩
        rw [he]
        rfl
    · have hil : i = r.off.length := by have : ¬ (i : Int) < ((r.off.map pvB).length : Int) := of_decide_eq_false h2; omega
      subst hil
      have hi1 := hol r.off.length
      rw [List.take_length] at hi1 ⊢
      cases on with
      | true =>
        obtain ⟨o, ho⟩ : ∃ o, o = r.off.filter (notS s) := ⟨_, rfl⟩
        have hout : rturnO r s true = o := by unfold rturnO; rw [if_pos rfl, ho]
        rw [← ho] at hi1 ⊢
        conv => whnf
        repeat (first | (refine rest_vc ?_; conv => whnf) | (refine ⟨by decide, ?_⟩; conv => whnf))
        intro _
        conv => whnf
        repeat (first | (refine rest_vc ?_; conv => whnf) | (refine ⟨by decide, ?_⟩; conv => whnf))
        split <;> rename_i h8 <;> (conv => whnf) <;> repeat (refine ⟨by decide, ?_⟩; conv => whnf)
        · refine rest_vc ?_
          conv => whnf
          repeat (first | (refine rest_vc ?_; conv => whnf) | (refine ⟨by decide, ?_⟩; conv => whnf))
          have he : rturnB r s true = (3, r) := by
            unfold rturnB; rw [if_neg h1', hout, if_pos]
            have h8 : (((o.map pvB).length : Nat) : Int) > 30 := of_decide_eq_true h8
            rw [List.length_map] at h8; omega
          exact ⟨congrArg (vI .i64) (by rw [he]), congrArg rs (by rw [he])⟩
        · have he : rturnB r s true = (0, { r with off := o }) := by
            unfold rturnB; rw [if_neg h1', hout, if_neg]
            have h8 : ¬ (((o.map pvB).length : Nat) : Int) > 30 := of_decide_eq_false h8
            rw [List.length_map] at h8; omega
          refine rest_vc ?_
          conv => whnf
          repeat (refine ⟨by decide, ?_⟩; conv => whnf)
          refine rest_frza 1 rfl ?_
          refine rest_vc ?_
          conv => whnf
          repeat (first | (refine rest_vc ?_; conv => whnf) | (refine ⟨by decide, ?_⟩; conv => whnf))
          refine ⟨congrArg (vI .i64) (by rw [he]), ?_⟩
          rw [he]
          exact rs_off r _ (b := (o.map pvB).isEmpty) (ps := o.map pvB) rfl (emp_map _ _)
      | false =>
        obtain ⟨o, ho⟩ : ∃ o, o = r.off.filter (notS s) := ⟨_, rfl⟩
        have hout : rturnO r s false = srtS (o ++ [s]) := by unfold rturnO; rw [if_neg (by decide), ho]
        rw [← ho] at hi1 ⊢
        have hc := hso 1 ((o.map pvB).isEmpty && [pvB s].isEmpty) (o ++ [s]) (by simp) (by rw [List.length_map] at hi1; simp; omega)
        rw [List.map_append, List.map_cons, List.map_nil] at hc
        conv => whnf
        repeat (first | (refine rest_vc ?_; conv => whnf) | (refine ⟨by decide, ?_⟩; conv => whnf))
        refine ⟨by exact Nat.le_trans (Nat.mul_le_mul_right _ (Nat.add_le_add_right hi1 1)) (by decide), ?_⟩
        conv => whnf
        repeat (first | (refine rest_vc ?_; conv => whnf) | (refine ⟨by decide, ?_⟩; conv => whnf))
        refine CallIn.o [1] (hc) (k := ?_)
        rintro r st' ⟨rfl, rfl⟩
        conv => whnf
        repeat (first | (refine rest_vc ?_; conv => whnf) | (refine ⟨by decide, ?_⟩; conv => whnf))
        intro _
        conv => whnf
        repeat (first | (refine rest_vc ?_; conv => whnf) | (refine ⟨by decide, ?_⟩; conv => whnf))
        split <;> rename_i h8 <;> (conv => whnf) <;> repeat (refine ⟨by decide, ?_⟩; conv => whnf)
        · refine rest_vc ?_
          conv => whnf
          repeat (first | (refine rest_vc ?_; conv => whnf) | (refine ⟨by decide, ?_⟩; conv => whnf))
          have he : rturnB r s false = (3, r) := by
            unfold rturnB; rw [if_neg h1', hout, if_pos]
            have h8 : ((((srtS (o ++ [s])).map pvB).length : Nat) : Int) > 30 := of_decide_eq_true h8
            rw [List.length_map] at h8; omega
          exact ⟨congrArg (vI .i64) (by rw [he]), congrArg rs (by rw [he])⟩
        · have he : rturnB r s false = (0, { r with off := srtS (o ++ [s]) }) := by
            unfold rturnB; rw [if_neg h1', hout, if_neg]
            have h8 : ¬ ((((srtS (o ++ [s])).map pvB).length : Nat) : Int) > 30 := of_decide_eq_false h8
            rw [List.length_map] at h8; omega
          refine rest_vc ?_
          conv => whnf
          repeat (refine ⟨by decide, ?_⟩; conv => whnf)
          refine rest_frza 1 rfl ?_
          refine rest_vc ?_
          conv => whnf
          repeat (first | (refine rest_vc ?_; conv => whnf) | (refine ⟨by decide, ?_⟩; conv => whnf))
          refine ⟨congrArg (vI .i64) (by rw [he]), ?_⟩
          rw [he]
          exact rs_off r _ (b := (o.map pvB).isEmpty && [pvB s].isEmpty) (ps := (srtS (o ++ [s])).map pvB) rfl (by rw [srtS_emp]; simp)
end Go.Proofs.YtafngalmkblipaaGreatDoor
/- law10: scripts and acts. -/
set_option linter.all false
set_option maxHeartbeats 4000000
set_option maxRecDepth 100000
namespace Go.Proofs.YtafngalmkblipaaGreatDoor
open Go Go.RowKit Go.Sy Go.Proofs

structure Ac where
  op : Int
  a : Int
  b : Int
  c : Int
  s : ByteArray
  dn : Bool
  d : List Int
def pvA (x : Ac) : PV := .agg [.val (.int .i64 x.op), .val (.int .i64 x.a), .val (.int .i64 x.b), .val (.int .i64 x.c), .val (.string x.s), .list 1 x.dn (u8s x.d)]
structure Scr where
  rn : Bool
  rows : List Rw
  nn : Bool
  names : List Nm
  an : Bool
  acts : List Ac
def pvX (x : Scr) : PV := .agg [.list 3 x.rn (x.rows.map pvR), .list 2 x.nn (x.names.map pvN), .list 6 x.an (x.acts.map pvA)]
def zR : Rw := ⟨noS, 0, noS⟩
def zN : Nm := ⟨true, [], noS⟩
def rowAt (x : Scr) (n : Int) : Rw := if n < 0 then zR else x.rows.getD n.toNat zR
def nameAt (x : Scr) (n : Int) : Nm := if n < 0 then zN else x.names.getD n.toNat zN

theorem row_ok (x : Scr) (n : Int) (hl : (x.rows.length : Int) ≤ 2000000) : CallOk Tryz.prog 26 [.pure (pvX x), vI .i64 n] [] fun r st' => st' = [] ∧ r = .pure (pvR (rowAt x n)) := by
  have hrl : (x.rows.map pvR).length = x.rows.length := List.length_map ..
  refine callOk_of true 0 Tryz.func26 rfl rfl (Nat.le_refl _) ?_
  conv => whnf
  repeat (first | (refine rest_vc ?_; conv => whnf) | (refine ⟨by decide, ?_⟩; conv => whnf))
  split <;> rename_i h1 <;> (conv => whnf) <;> repeat (first | (refine rest_vc ?_; conv => whnf) | (refine ⟨by decide, ?_⟩; conv => whnf))
  · have he : rowAt x n = zR := by unfold rowAt; rw [if_pos (of_decide_eq_true h1)]
    exact ⟨rfl, by rw [he]; rfl⟩
  · have h1 := of_decide_eq_false h1
    intro _
    conv => whnf
    repeat (first | (refine rest_vc ?_; conv => whnf) | (refine ⟨by decide, ?_⟩; conv => whnf))
    split <;> rename_i h2 <;> (conv => whnf) <;> repeat (first | (refine rest_vc ?_; conv => whnf) | (refine ⟨by decide, ?_⟩; conv => whnf))
    · have h2 : n ≥ ((x.rows.map pvR).length : Int) := of_decide_eq_true h2
      have he : rowAt x n = zR := by unfold rowAt; rw [if_neg h1, List.getD_eq_getElem?_getD, List.getElem?_eq_none (by omega)]; rfl
      exact ⟨rfl, by rw [he]; rfl⟩
    · have h2 : ¬ n ≥ ((x.rows.map pvR).length : Int) := of_decide_eq_false h2
      have hlt : n.toNat < x.rows.length := by omega
      have he : rowAt x n = x.rows[n.toNat] := by unfold rowAt; rw [if_neg h1, List.getD_eq_getElem?_getD, List.getElem?_eq_getElem hlt]; rfl
      refine ⟨⟨by omega, by show n < ((x.rows.map pvR).length : Int); omega⟩, fun p hp => ?_⟩
      have hp' : (x.rows.map pvR)[n.toNat]? = some p := hp
      rw [List.getElem?_map, List.getElem?_eq_getElem hlt] at hp'
      obtain rfl : pvR x.rows[n.toNat] = p := Option.some.inj hp'
      conv => whnf
      repeat (first | (refine rest_vc ?_; conv => whnf) | (refine ⟨by decide, ?_⟩; conv => whnf))
      exact ⟨rfl, by rw [he]; rfl⟩

theorem name_ok (x : Scr) (n : Int) (hl : (x.names.length : Int) ≤ 2000000) : CallOk Tryz.prog 38 [.pure (pvX x), vI .i64 n] [] fun r st' => st' = [] ∧ r = .pure (pvN (nameAt x n)) := by
  have hrl : (x.names.map pvN).length = x.names.length := List.length_map ..
  refine callOk_of true 0 Tryz.func38 rfl rfl (Nat.le_refl _) ?_
  conv => whnf
  repeat (first | (refine rest_vc ?_; conv => whnf) | (refine ⟨by decide, ?_⟩; conv => whnf))
  split <;> rename_i h1 <;> (conv => whnf) <;> repeat (refine ⟨by decide, ?_⟩; conv => whnf)
  · have he : nameAt x n = zN := by unfold nameAt; rw [if_pos (of_decide_eq_true h1)]
    refine rest_vc ?_
    conv => whnf
    repeat (refine ⟨by decide, ?_⟩; conv => whnf)
    refine rest_nils 1 [some 1] rfl ?_
    refine rest_vc ?_
    conv => whnf
    repeat (first | (refine rest_vc ?_; conv => whnf) | (refine ⟨by decide, ?_⟩; conv => whnf))
    exact ⟨rfl, by rw [he]; rfl⟩
  · have h1 := of_decide_eq_false h1
    intro _
    conv => whnf
    repeat (first | (refine rest_vc ?_; conv => whnf) | (refine ⟨by decide, ?_⟩; conv => whnf))
    split <;> rename_i h2 <;> (conv => whnf) <;> repeat (refine ⟨by decide, ?_⟩; conv => whnf)
    · have h2 : n ≥ ((x.names.map pvN).length : Int) := of_decide_eq_true h2
      have he : nameAt x n = zN := by unfold nameAt; rw [if_neg h1, List.getD_eq_getElem?_getD, List.getElem?_eq_none (by omega)]; rfl
      refine rest_vc ?_
      conv => whnf
      repeat (refine ⟨by decide, ?_⟩; conv => whnf)
      refine rest_nils 1 [some 1] rfl ?_
      refine rest_vc ?_
      conv => whnf
      repeat (first | (refine rest_vc ?_; conv => whnf) | (refine ⟨by decide, ?_⟩; conv => whnf))
      exact ⟨rfl, by rw [he]; rfl⟩
    · have h2 : ¬ n ≥ ((x.names.map pvN).length : Int) := of_decide_eq_false h2
      have hlt : n.toNat < x.names.length := by omega
      have he : nameAt x n = x.names[n.toNat] := by unfold nameAt; rw [if_neg h1, List.getD_eq_getElem?_getD, List.getElem?_eq_getElem hlt]; rfl
      refine rest_vc ?_
      conv => whnf
      repeat (first | (refine rest_vc ?_; conv => whnf) | (refine ⟨by decide, ?_⟩; conv => whnf))
      refine ⟨⟨by omega, by show n < ((x.names.map pvN).length : Int); omega⟩, fun p hp => ?_⟩
      have hp' : (x.names.map pvN)[n.toNat]? = some p := hp
      rw [List.getElem?_map, List.getElem?_eq_getElem hlt] at hp'
      obtain rfl : pvN x.names[n.toNat] = p := Option.some.inj hp'
      conv => whnf
      repeat (first | (refine rest_vc ?_; conv => whnf) | (refine ⟨by decide, ?_⟩; conv => whnf))
      exact ⟨rfl, by rw [he]; rfl⟩

/-- An act on both books: whether they tell the same, and what they have then. -/
def playB (b : Bst) (r : Rst) (x : Scr) (a : Ac) : Bool × Bst × Rst :=
  let t := rowAt x a.a
  if a.op = 0 then ((rowB b t).1 == (rrowB r t).1, (rowB b t).2, (rrowB r t).2) else
  if a.op = 1 then ((ruleB b t).1 == (rruleB r t).1, (ruleB b t).2, (rruleB r t).2) else
  if a.op = 2 then ((unruleB b (t.t, t.k)).1 == (runruleB r t.t t.k).1, (unruleB b (t.t, t.k)).2, (runruleB r t.t t.k).2) else
  if a.op = 3 then ((prefB b a.s a.a a.b a.c).1 == (rprefB r a.s a.a a.b a.c).1, (prefB b a.s a.a a.b a.c).2, (rprefB r a.s a.a a.b a.c).2) else
  if a.op = 4 then ((setB b a.s a.a).1 == (rsetB r a.s a.a).1, (setB b a.s a.a).2, (rsetB r a.s a.a).2) else
  if a.op = 5 then ((turnB b a.s (!(a.a == 0))).1 == (rturnB r a.s (!(a.a == 0))).1, (turnB b a.s (!(a.a == 0))).2, (rturnB r a.s (!(a.a == 0))).2) else
  if a.op = 6 then ((nameB b (nameAt x a.a)).1 == (rnameB r (nameAt x a.a)).1, (nameB b (nameAt x a.a)).2, (rnameB r (nameAt x a.a)).2) else
  (true, b, r)

structure Small (b : Bst) (r : Rst) : Prop where
  rows : (b.rows.length : Int) ≤ 1000
  rules : (b.rules.length : Int) ≤ 1000
  prefs : (b.prefs.length : Int) ≤ 1000
  off : (b.off.length : Int) ≤ 1000
  rrows : (r.rows.length : Int) ≤ 1000
  rrules : (r.rules.length : Int) ≤ 1000
  rprefs : (r.prefs.length : Int) ≤ 1000
  roff : (r.off.length : Int) ≤ 1000
  rnames : (r.names.length : Int) ≤ 1000

theorem play_ok (h39 : IsW 66) (h43 : IsW 69) (hso : SortS 72) (b : Bst) (r : Rst) (hs : Small b r) (x : Scr) (a : Ac) (hx1 : (x.rows.length : Int) ≤ 2000000) (hx2 : (x.names.length : Int) ≤ 2000000)
    (hzr : (rowAt x a.a).ok) (hzs : (a.s.size : Int) ≤ 2000000) (hna : ((nameAt x a.a).a.length : Int) ≤ 2000000) (hnx : ((nameAt x a.a).x.size : Int) ≤ 2000000) :
    CallOk Tryz.prog 12 [.ptr 0 0, .ptr 7 0, .pure (pvX x), .pure (pvA a)] (bs b ++ rs r) fun z st' => z = vB (playB b r x a).1 ∧ st' = bs (playB b r x a).2.1 ++ rs (playB b r x a).2.2 := by
  have fin : ∀ {i j : Int} {b' : Bst} {r' : Rst} {c : Bool}, playB b r x a = (i == j, b', r') → (i == j) = c → (vB c = vB (playB b r x a).1 ∧ bs b' ++ rs r' = bs (playB b r x a).2.1 ++ rs (playB b r x a).2.2) := fun h hc => by rw [h, hc]; exact ⟨rfl, rfl⟩
  refine callOk_of false 8 Tryz.func12 rfl rfl (Nat.le_refl _) ?_
  conv => whnf
  repeat (refine ⟨by decide, ?_⟩; conv => whnf)
  refine rest_frc 8 rfl rfl ?_
  refine rest_frc 9 rfl rfl ?_
  refine rest_vc ?_
  conv => whnf
  repeat (refine ⟨by decide, ?_⟩; conv => whnf)
  refine CallIn.to (row_ok x a.a hx1) (k := ?_)
  conv => whnf
  repeat (refine ⟨by decide, ?_⟩; conv => whnf)
  refine rest_frc 10 rfl rfl ?_
  generalize htr : rowAt x a.a = t at *
  refine rest_vc ?_
  conv => whnf
  repeat (first | (refine rest_vc ?_; conv => whnf) | (refine ⟨by decide, ?_⟩; conv => whnf))
  split <;> rename_i g0 <;> (conv => whnf) <;> repeat (first | (refine rest_vc ?_; conv => whnf) | (refine ⟨by decide, ?_⟩; conv => whnf))
  · have e : a.op = 0 := beq_iff_eq.1 g0
    have he : playB b r x a = ((rowB b t).1 == (rrowB r t).1, (rowB b t).2, (rrowB r t).2) := by unfold playB; simp only [htr]; rw [ if_pos e]
    have hc1 := Row_ok h39 b t hzr hs.rows
    have hc2 := rRow_ok h43 r t hzr hs.rrows
    generalize rowB b t = B1 at he hc1
    generalize rrowB r t = B2 at he hc2
    obtain ⟨i1, b1⟩ := B1
    obtain ⟨i2, r1⟩ := B2
    simp only at he hc1 hc2
    refine hand_drawL { lds := [1, 4] } [2, 5] (fun _ _ => True) rfl (by kernel_rfl) rfl ?_
    conv => whnf
    repeat (first | (refine rest_vc ?_; conv => whnf) | (refine ⟨by decide, ?_⟩; conv => whnf))
    refine CallIn.oe [0, 1, 2, 3, 4, 5, 6] hc1 (vI .i64 i1) (bs b1 ++ rs r ++ [.gone, .gone, .gone]) rfl rfl ?_
    conv => whnf
    repeat (first | (refine rest_vc ?_; conv => whnf) | (refine ⟨by decide, ?_⟩; conv => whnf))
    refine CallIn.oe [7] hc2 (vI .i64 i2) (bs b1 ++ rs r1 ++ [.gone, .gone, .gone]) rfl rfl ?_
    conv => whnf
    repeat (first | (refine rest_vc ?_; conv => whnf) | (refine ⟨by decide, ?_⟩; conv => whnf))
    split <;> rename_i h <;> (conv => whnf) <;> repeat (first | (refine rest_vc ?_; conv => whnf) | (refine ⟨by decide, ?_⟩; conv => whnf))
    · exact fin he h
    · exact fin he h
  · have n0 : ¬ a.op = 0 := beq_eq_false_iff_ne.1 g0
    split <;> rename_i g1 <;> (conv => whnf) <;> repeat (first | (refine rest_vc ?_; conv => whnf) | (refine ⟨by decide, ?_⟩; conv => whnf))
    · have e : a.op = 1 := beq_iff_eq.1 g1
      have he : playB b r x a = ((ruleB b t).1 == (rruleB r t).1, (ruleB b t).2, (rruleB r t).2) := by unfold playB; simp only [htr]; rw [if_neg n0, if_pos e]
      have hc1 := Rule_ok h39 b t hzr hs.rules
      have hc2 := rRule_ok h43 r t hzr hs.rrules
      generalize ruleB b t = B1 at he hc1
      generalize rruleB r t = B2 at he hc2
      obtain ⟨i1, b1⟩ := B1
      obtain ⟨i2, r1⟩ := B2
      simp only at he hc1 hc2
      refine hand_drawL { lds := [1, 4] } [2, 5] (fun _ _ => True) rfl (by kernel_rfl) rfl ?_
      conv => whnf
      repeat (first | (refine rest_vc ?_; conv => whnf) | (refine ⟨by decide, ?_⟩; conv => whnf))
      refine CallIn.oe [0, 1, 2, 3, 4, 5, 6] hc1 (vI .i64 i1) (bs b1 ++ rs r ++ [.gone, .gone, .gone]) rfl rfl ?_
      conv => whnf
      repeat (first | (refine rest_vc ?_; conv => whnf) | (refine ⟨by decide, ?_⟩; conv => whnf))
      refine CallIn.oe [7] hc2 (vI .i64 i2) (bs b1 ++ rs r1 ++ [.gone, .gone, .gone]) rfl rfl ?_
      conv => whnf
      repeat (first | (refine rest_vc ?_; conv => whnf) | (refine ⟨by decide, ?_⟩; conv => whnf))
      split <;> rename_i h <;> (conv => whnf) <;> repeat (first | (refine rest_vc ?_; conv => whnf) | (refine ⟨by decide, ?_⟩; conv => whnf))
      · exact fin he h
      · exact fin he h
    · have n1 : ¬ a.op = 1 := beq_eq_false_iff_ne.1 g1
      split <;> rename_i g2 <;> (conv => whnf) <;> repeat (first | (refine rest_vc ?_; conv => whnf) | (refine ⟨by decide, ?_⟩; conv => whnf))
      · have e : a.op = 2 := beq_iff_eq.1 g2
        have he : playB b r x a = ((unruleB b (t.t, t.k)).1 == (runruleB r t.t t.k).1, (unruleB b (t.t, t.k)).2, (runruleB r t.t t.k).2) := by unfold playB; simp only [htr]; rw [if_neg n0, if_neg n1, if_pos e]
        have hc1 := Unrule_ok b t.t t.k
        have hc2 := rUnrule_ok r t.t t.k hs.rrules
        generalize unruleB b (t.t, t.k) = B1 at he hc1
        generalize runruleB r t.t t.k = B2 at he hc2
        obtain ⟨i1, b1⟩ := B1
        obtain ⟨i2, r1⟩ := B2
        simp only at he hc1 hc2
        refine hand_drawL { lds := [2, 4, 8, 10] } [5, 11] (fun _ _ => True) rfl (by kernel_rfl) rfl ?_
        conv => whnf
        repeat (first | (refine rest_vc ?_; conv => whnf) | (refine ⟨by decide, ?_⟩; conv => whnf))
        refine CallIn.oe [0, 1, 2, 3, 4, 5, 6] hc1 (vI .i64 i1) (bs b1 ++ rs r ++ [.gone, .gone, .gone]) rfl rfl ?_
        conv => whnf
        repeat (first | (refine rest_vc ?_; conv => whnf) | (refine ⟨by decide, ?_⟩; conv => whnf))
        refine CallIn.oe [7] hc2 (vI .i64 i2) (bs b1 ++ rs r1 ++ [.gone, .gone, .gone]) rfl rfl ?_
        conv => whnf
        repeat (first | (refine rest_vc ?_; conv => whnf) | (refine ⟨by decide, ?_⟩; conv => whnf))
        split <;> rename_i h <;> (conv => whnf) <;> repeat (first | (refine rest_vc ?_; conv => whnf) | (refine ⟨by decide, ?_⟩; conv => whnf))
        · exact fin he h
        · exact fin he h
      · have n2 : ¬ a.op = 2 := beq_eq_false_iff_ne.1 g2
        split <;> rename_i g3 <;> (conv => whnf) <;> repeat (first | (refine rest_vc ?_; conv => whnf) | (refine ⟨by decide, ?_⟩; conv => whnf))
        · have e : a.op = 3 := beq_iff_eq.1 g3
          have he : playB b r x a = ((prefB b a.s a.a a.b a.c).1 == (rprefB r a.s a.a a.b a.c).1, (prefB b a.s a.a a.b a.c).2, (rprefB r a.s a.a a.b a.c).2) := by unfold playB; simp only [htr]; rw [if_neg n0, if_neg n1, if_neg n2, if_pos e]
          have hc1 := Pref_ok h39 b a.s a.a a.b a.c hzs hs.prefs
          have hc2 := rPref_ok h43 r a.s a.a a.b a.c hzs hs.rprefs
          generalize prefB b a.s a.a a.b a.c = B1 at he hc1
          generalize rprefB r a.s a.a a.b a.c = B2 at he hc2
          obtain ⟨i1, b1⟩ := B1
          obtain ⟨i2, r1⟩ := B2
          simp only at he hc1 hc2
          refine hand_drawL { lds := [2, 4, 6, 8, 12, 14, 16, 18] } [9, 19] (fun _ _ => True) rfl (by kernel_rfl) rfl ?_
          conv => whnf
          repeat (first | (refine rest_vc ?_; conv => whnf) | (refine ⟨by decide, ?_⟩; conv => whnf))
          refine CallIn.oe [0, 1, 2, 3, 4, 5, 6] hc1 (vI .i64 i1) (bs b1 ++ rs r ++ [.gone, .gone, .gone]) rfl rfl ?_
          conv => whnf
          repeat (first | (refine rest_vc ?_; conv => whnf) | (refine ⟨by decide, ?_⟩; conv => whnf))
          refine CallIn.oe [7] hc2 (vI .i64 i2) (bs b1 ++ rs r1 ++ [.gone, .gone, .gone]) rfl rfl ?_
          conv => whnf
          repeat (first | (refine rest_vc ?_; conv => whnf) | (refine ⟨by decide, ?_⟩; conv => whnf))
          split <;> rename_i h <;> (conv => whnf) <;> repeat (first | (refine rest_vc ?_; conv => whnf) | (refine ⟨by decide, ?_⟩; conv => whnf))
          · exact fin he h
          · exact fin he h
        · have n3 : ¬ a.op = 3 := beq_eq_false_iff_ne.1 g3
          split <;> rename_i g4 <;> (conv => whnf) <;> repeat (first | (refine rest_vc ?_; conv => whnf) | (refine ⟨by decide, ?_⟩; conv => whnf))
          · have e : a.op = 4 := beq_iff_eq.1 g4
            have he : playB b r x a = ((setB b a.s a.a).1 == (rsetB r a.s a.a).1, (setB b a.s a.a).2, (rsetB r a.s a.a).2) := by unfold playB; simp only [htr]; rw [if_neg n0, if_neg n1, if_neg n2, if_neg n3, if_pos e]
            have hc1 := Set_ok b a.s a.a hs.prefs
            have hc2 := rSet_ok r a.s a.a hs.rprefs
            generalize setB b a.s a.a = B1 at he hc1
            generalize rsetB r a.s a.a = B2 at he hc2
            obtain ⟨i1, b1⟩ := B1
            obtain ⟨i2, r1⟩ := B2
            simp only at he hc1 hc2
            refine hand_drawL { lds := [2, 4, 8, 10] } [5, 11] (fun _ _ => True) rfl (by kernel_rfl) rfl ?_
            conv => whnf
            repeat (first | (refine rest_vc ?_; conv => whnf) | (refine ⟨by decide, ?_⟩; conv => whnf))
            refine CallIn.oe [0, 1, 2, 3, 4, 5, 6] hc1 (vI .i64 i1) (bs b1 ++ rs r ++ [.gone, .gone, .gone]) rfl rfl ?_
            conv => whnf
            repeat (first | (refine rest_vc ?_; conv => whnf) | (refine ⟨by decide, ?_⟩; conv => whnf))
            refine CallIn.oe [7] hc2 (vI .i64 i2) (bs b1 ++ rs r1 ++ [.gone, .gone, .gone]) rfl rfl ?_
            conv => whnf
            repeat (first | (refine rest_vc ?_; conv => whnf) | (refine ⟨by decide, ?_⟩; conv => whnf))
            split <;> rename_i h <;> (conv => whnf) <;> repeat (first | (refine rest_vc ?_; conv => whnf) | (refine ⟨by decide, ?_⟩; conv => whnf))
            · exact fin he h
            · exact fin he h
          · have n4 : ¬ a.op = 4 := beq_eq_false_iff_ne.1 g4
            split <;> rename_i g5 <;> (conv => whnf) <;> repeat (first | (refine rest_vc ?_; conv => whnf) | (refine ⟨by decide, ?_⟩; conv => whnf))
            · have e : a.op = 5 := beq_iff_eq.1 g5
              have he : playB b r x a = ((turnB b a.s (!(a.a == 0))).1 == (rturnB r a.s (!(a.a == 0))).1, (turnB b a.s (!(a.a == 0))).2, (rturnB r a.s (!(a.a == 0))).2) := by unfold playB; simp only [htr]; rw [if_neg n0, if_neg n1, if_neg n2, if_neg n3, if_neg n4, if_pos e]
              have hc1 := Turn_ok h39 b a.s (!(a.a == 0)) hzs hs.off
              have hc2 := rTurn_ok h43 hso r a.s (!(a.a == 0)) hzs hs.roff
              generalize turnB b a.s (!(a.a == 0)) = B1 at he hc1
              generalize rturnB r a.s (!(a.a == 0)) = B2 at he hc2
              obtain ⟨i1, b1⟩ := B1
              obtain ⟨i2, r1⟩ := B2
              simp only at he hc1 hc2
              refine hand_drawL { lds := [2, 4, 9, 11] } [6, 13] (fun _ _ => True) rfl (by kernel_rfl) rfl ?_
              conv => whnf
              repeat (first | (refine rest_vc ?_; conv => whnf) | (refine ⟨by decide, ?_⟩; conv => whnf))
              split <;> rename_i gz <;> (conv => whnf) <;> repeat (first | (refine rest_vc ?_; conv => whnf) | (refine ⟨by decide, ?_⟩; conv => whnf))
              · have gz : (!(a.a == 0)) = true := gz
                rw [gz] at hc1 hc2
                refine CallIn.oe [0, 1, 2, 3, 4, 5, 6] hc1 (vI .i64 i1) (bs b1 ++ rs r ++ [.gone, .gone, .gone]) rfl rfl ?_
                conv => whnf
                repeat (first | (refine rest_vc ?_; conv => whnf) | (refine ⟨by decide, ?_⟩; conv => whnf))
                split <;> rename_i gz2 <;> (conv => whnf) <;> repeat (first | (refine rest_vc ?_; conv => whnf) | (refine ⟨by decide, ?_⟩; conv => whnf))
                · refine CallIn.oe [7] hc2 (vI .i64 i2) (bs b1 ++ rs r1 ++ [.gone, .gone, .gone]) rfl rfl ?_
                  conv => whnf
                  repeat (first | (refine rest_vc ?_; conv => whnf) | (refine ⟨by decide, ?_⟩; conv => whnf))
                  split <;> rename_i h <;> (conv => whnf) <;> repeat (first | (refine rest_vc ?_; conv => whnf) | (refine ⟨by decide, ?_⟩; conv => whnf))
                  · exact fin he h
                  · exact fin he h
                · exact absurd (gz.symm.trans gz2) (by decide)
              · have gz : (!(a.a == 0)) = false := gz
                rw [gz] at hc1 hc2
                refine CallIn.oe [0, 1, 2, 3, 4, 5, 6] hc1 (vI .i64 i1) (bs b1 ++ rs r ++ [.gone, .gone, .gone]) rfl rfl ?_
                conv => whnf
                repeat (first | (refine rest_vc ?_; conv => whnf) | (refine ⟨by decide, ?_⟩; conv => whnf))
                split <;> rename_i gz2 <;> (conv => whnf) <;> repeat (first | (refine rest_vc ?_; conv => whnf) | (refine ⟨by decide, ?_⟩; conv => whnf))
                · exact absurd (gz.symm.trans gz2) (by decide)
                · refine CallIn.oe [7] hc2 (vI .i64 i2) (bs b1 ++ rs r1 ++ [.gone, .gone, .gone]) rfl rfl ?_
                  conv => whnf
                  repeat (first | (refine rest_vc ?_; conv => whnf) | (refine ⟨by decide, ?_⟩; conv => whnf))
                  split <;> rename_i h <;> (conv => whnf) <;> repeat (first | (refine rest_vc ?_; conv => whnf) | (refine ⟨by decide, ?_⟩; conv => whnf))
                  · exact fin he h
                  · exact fin he h
            · have n5 : ¬ a.op = 5 := beq_eq_false_iff_ne.1 g5
              split <;> rename_i g6 <;> (conv => whnf) <;> repeat (first | (refine rest_vc ?_; conv => whnf) | (refine ⟨by decide, ?_⟩; conv => whnf))
              · have e : a.op = 6 := beq_iff_eq.1 g6
                have he : playB b r x a = ((nameB b (nameAt x a.a)).1 == (rnameB r (nameAt x a.a)).1, (nameB b (nameAt x a.a)).2, (rnameB r (nameAt x a.a)).2) := by unfold playB; simp only [htr]; rw [if_neg n0, if_neg n1, if_neg n2, if_neg n3, if_neg n4, if_neg n5, if_pos e]
                have hc1 := Name_ok b (nameAt x a.a) hna hnx
                have hc2 := rName_ok r (nameAt x a.a) hna hnx hs.rnames
                generalize nameB b (nameAt x a.a) = B1 at he hc1
                generalize rnameB r (nameAt x a.a) = B2 at he hc2
                obtain ⟨i1, b1⟩ := B1
                obtain ⟨i2, r1⟩ := B2
                simp only at he hc1 hc2
                refine hand_drawL { lds := [1, 3, 7, 9] } [5, 11] (fun _ z => z = .pure (pvN (nameAt x a.a))) rfl (by kernel_rfl) rfl ?_
                conv => whnf
                repeat (first | (refine rest_vc ?_; conv => whnf) | (refine ⟨by decide, ?_⟩; conv => whnf))
                refine CallIn.dto (name_ok x a.a hx2) (k := ?_)
                conv => whnf
                repeat (first | (refine rest_vc ?_; conv => whnf) | (refine ⟨by decide, ?_⟩; conv => whnf))
                refine CallIn.oe [0, 1, 2, 3, 4, 5, 6] hc1 (vI .i64 i1) (bs b1 ++ rs r ++ [.gone, .gone, .gone]) rfl rfl ?_
                conv => whnf
                repeat (first | (refine rest_vc ?_; conv => whnf) | (refine ⟨by decide, ?_⟩; conv => whnf))
                refine CallIn.dto (name_ok x a.a hx2) (k := ?_)
                conv => whnf
                repeat (first | (refine rest_vc ?_; conv => whnf) | (refine ⟨by decide, ?_⟩; conv => whnf))
                refine CallIn.oe [7] hc2 (vI .i64 i2) (bs b1 ++ rs r1 ++ [.gone, .gone, .gone]) rfl rfl ?_
                conv => whnf
                repeat (first | (refine rest_vc ?_; conv => whnf) | (refine ⟨by decide, ?_⟩; conv => whnf))
                split <;> rename_i h <;> (conv => whnf) <;> repeat (first | (refine rest_vc ?_; conv => whnf) | (refine ⟨by decide, ?_⟩; conv => whnf))
                · exact fin he h
                · exact fin he h
              · have n6 : ¬ a.op = 6 := beq_eq_false_iff_ne.1 g6
                have he : playB b r x a = (true, b, r) := by unfold playB; simp only [htr]; rw [if_neg n0, if_neg n1, if_neg n2, if_neg n3, if_neg n4, if_neg n5, if_neg n6]
                rw [he]
                exact ⟨rfl, rfl⟩
end Go.Proofs.YtafngalmkblipaaGreatDoor
/- law10: is a script too large; both books made by a script. -/
set_option linter.all false
set_option maxHeartbeats 4000000
set_option maxRecDepth 100000
namespace Go.Proofs.YtafngalmkblipaaGreatDoor
open Go Go.RowKit Go.Sy Go.Proofs

theorem over_ok (x : Scr) (h1 : (x.rows.length : Int) ≤ 2000000) (h2 : (x.names.length : Int) ≤ 2000000) (h3 : (x.acts.length : Int) ≤ 2000000) : CallOk Tryz.prog 5 [.pure (pvX x)] [] fun r st' => st' = [] ∧ ∃ c : Bool, r = vB c := by
  have e1 : (x.rows.map pvR).length = x.rows.length := List.length_map ..
  have e2 : (x.names.map pvN).length = x.names.length := List.length_map ..
  have e3 : (x.acts.map pvA).length = x.acts.length := List.length_map ..
  refine callOk_of true 0 Tryz.func5 rfl rfl (Nat.le_refl _) ?_
  conv => whnf
  repeat (refine ⟨by decide, ?_⟩; conv => whnf)
  refine rest_frc 0 rfl rfl ?_
  refine rest_vc ?_
  conv => whnf
  repeat (first | (refine rest_vc ?_; conv => whnf) | (refine ⟨by decide, ?_⟩; conv => whnf))
  intro _
  conv => whnf
  repeat (first | (refine rest_vc ?_; conv => whnf) | (refine ⟨by decide, ?_⟩; conv => whnf))
  intro _
  conv => whnf
  repeat (first | (refine rest_vc ?_; conv => whnf) | (refine ⟨by decide, ?_⟩; conv => whnf))
  intro _
  conv => whnf
  repeat (first | (refine rest_vc ?_; conv => whnf) | (refine ⟨by decide, ?_⟩; conv => whnf))
  obtain ⟨n0, hn0⟩ : ∃ n0 : Int, n0 = IntKind.i64.wrap (IntKind.i64.wrap (((x.rows.map pvR).length : Int) + ((x.names.map pvN).length : Int)) + ((x.acts.map pvA).length : Int)) := ⟨_, rfl⟩
  refine awp_loop2 (n := 98) (α := Nat) (β := Int) (fun i n => i ≤ x.rows.length) (fun i n => [(1, .ipt [.list 3 x.rn (x.rows.map pvR), .list 2 x.nn (x.names.map pvN), .list 6 x.an (x.acts.map pvA)]), (3, vI .i64 n), (4, vI .i64 i)])
    (fun _ _ => []) (fun i n => x.rows.length - i) 0 n0 (fun _ => 0) (Nat.zero_le _) rfl ⟨rfl, congrArg (vI .i64) hn0.symm, rfl, trivial⟩ rfl (fun _ _ => rfl) (fun _ _ => ⟨Nat.le_refl _, rfl, rfl⟩) ?_
  rintro i n hi
  conv => whnf
  repeat (first | (refine rest_vc ?_; conv => whnf) | (refine ⟨by decide, ?_⟩; conv => whnf))
  intro _
  conv => whnf
  repeat (first | (refine rest_vc ?_; conv => whnf) | (refine ⟨by decide, ?_⟩; conv => whnf))
  split <;> rename_i g1 <;> (conv => whnf) <;> repeat (first | (refine rest_vc ?_; conv => whnf) | (refine ⟨by decide, ?_⟩; conv => whnf))
  · have hlt : i < x.rows.length := by have : (i : Int) < ((x.rows.map pvR).length : Int) := of_decide_eq_true g1; omega
    have bd : 0 ≤ (i : Int) ∧ (i : Int) < ((x.rows.map pvR).length : Int) := ⟨by omega, by omega⟩
    have ld : ∀ p, (x.rows.map pvR)[(i : Int).toNat]? = some p → pvR x.rows[i] = p := fun p hp => by
      have hp' : (x.rows.map pvR)[i]? = some p := by simpa using hp
      rw [List.getElem?_map, List.getElem?_eq_getElem hlt] at hp'
      exact Option.some.inj hp'
    refine hand_draw [] (fun _ _ => True) rfl (by kernel_rfl) rfl ?_
    conv => whnf
    repeat (first | (refine rest_vc ?_; conv => whnf) | (refine ⟨by decide, ?_⟩; conv => whnf))
    refine ⟨bd, fun p hp => ?_⟩
    obtain rfl := ld p hp
    conv => whnf
    repeat (first | (refine rest_vc ?_; conv => whnf) | (refine ⟨by decide, ?_⟩; conv => whnf))
    refine ⟨bd, fun p hp => ?_⟩
    obtain rfl := ld p hp
    conv => whnf
    repeat (first | (refine rest_vc ?_; conv => whnf) | (refine ⟨by decide, ?_⟩; conv => whnf))
    exact ⟨i + 1, _, fun _ => 0, hlt, by omega, rfl, ⟨rfl, rfl, congrArg (vI .i64) (succ64 (by omega)), trivial⟩, rfl, fun _ _ => rfl⟩
  · conv => whnf
    repeat (first | (refine rest_vc ?_; conv => whnf) | (refine ⟨by decide, ?_⟩; conv => whnf))
    refine awp_loop2 (n := 98) (α := Nat) (β := Int) (fun i n => i ≤ x.names.length) (fun i n => [(1, .ipt [.list 3 x.rn (x.rows.map pvR), .list 2 x.nn (x.names.map pvN), .list 6 x.an (x.acts.map pvA)]), (3, vI .i64 n), (5, vI .i64 i)])
      (fun _ _ => []) (fun i n => x.names.length - i) 0 n (fun _ => 0) (Nat.zero_le _) rfl ⟨rfl, rfl, rfl, trivial⟩ rfl (fun _ _ => rfl) (fun _ _ => ⟨Nat.le_refl _, rfl, rfl⟩) ?_
    rintro j m hj
    conv => whnf
    repeat (first | (refine rest_vc ?_; conv => whnf) | (refine ⟨by decide, ?_⟩; conv => whnf))
    intro _
    conv => whnf
    repeat (first | (refine rest_vc ?_; conv => whnf) | (refine ⟨by decide, ?_⟩; conv => whnf))
    split <;> rename_i g2 <;> (conv => whnf) <;> repeat (first | (refine rest_vc ?_; conv => whnf) | (refine ⟨by decide, ?_⟩; conv => whnf))
    · have hlt : j < x.names.length := by have : (j : Int) < ((x.names.map pvN).length : Int) := of_decide_eq_true g2; omega
      have bd : 0 ≤ (j : Int) ∧ (j : Int) < ((x.names.map pvN).length : Int) := ⟨by omega, by omega⟩
      have ld : ∀ p, (x.names.map pvN)[(j : Int).toNat]? = some p → pvN x.names[j] = p := fun p hp => by
        have hp' : (x.names.map pvN)[j]? = some p := by simpa using hp
        rw [List.getElem?_map, List.getElem?_eq_getElem hlt] at hp'
        exact Option.some.inj hp'
      refine hand_draw [] (fun _ _ => True) rfl (by kernel_rfl) rfl ?_
      conv => whnf
      repeat (first | (refine rest_vc ?_; conv => whnf) | (refine ⟨by decide, ?_⟩; conv => whnf))
      refine ⟨bd, fun p hp => ?_⟩
      obtain rfl := ld p hp
      conv => whnf
      repeat (first | (refine rest_vc ?_; conv => whnf) | (refine ⟨by decide, ?_⟩; conv => whnf))
      intro _
      conv => whnf
      repeat (first | (refine rest_vc ?_; conv => whnf) | (refine ⟨by decide, ?_⟩; conv => whnf))
      refine ⟨bd, fun p hp => ?_⟩
      obtain rfl := ld p hp
      conv => whnf
      repeat (first | (refine rest_vc ?_; conv => whnf) | (refine ⟨by decide, ?_⟩; conv => whnf))
      exact ⟨j + 1, _, fun _ => 0, hlt, by omega, rfl, ⟨rfl, rfl, congrArg (vI .i64) (succ64 (by omega)), trivial⟩, rfl, fun _ _ => rfl⟩
    · conv => whnf
      repeat (first | (refine rest_vc ?_; conv => whnf) | (refine ⟨by decide, ?_⟩; conv => whnf))
      refine awp_loop2 (n := 98) (α := Nat) (β := Int) (fun i n => i ≤ x.acts.length) (fun i n => [(1, .ipt [.list 3 x.rn (x.rows.map pvR), .list 2 x.nn (x.names.map pvN), .list 6 x.an (x.acts.map pvA)]), (3, vI .i64 n), (6, vI .i64 i)])
        (fun _ _ => []) (fun i n => x.acts.length - i) 0 m (fun _ => 0) (Nat.zero_le _) rfl ⟨rfl, rfl, rfl, trivial⟩ rfl (fun _ _ => rfl) (fun _ _ => ⟨Nat.le_refl _, rfl, rfl⟩) ?_
      rintro k l hk
      conv => whnf
      repeat (first | (refine rest_vc ?_; conv => whnf) | (refine ⟨by decide, ?_⟩; conv => whnf))
      intro _
      conv => whnf
      repeat (first | (refine rest_vc ?_; conv => whnf) | (refine ⟨by decide, ?_⟩; conv => whnf))
      split <;> rename_i g3 <;> (conv => whnf) <;> repeat (first | (refine rest_vc ?_; conv => whnf) | (refine ⟨by decide, ?_⟩; conv => whnf))
      · have hlt : k < x.acts.length := by have : (k : Int) < ((x.acts.map pvA).length : Int) := of_decide_eq_true g3; omega
        have bd : 0 ≤ (k : Int) ∧ (k : Int) < ((x.acts.map pvA).length : Int) := ⟨by omega, by omega⟩
        have ld : ∀ p, (x.acts.map pvA)[(k : Int).toNat]? = some p → pvA x.acts[k] = p := fun p hp => by
          have hp' : (x.acts.map pvA)[k]? = some p := by simpa using hp
          rw [List.getElem?_map, List.getElem?_eq_getElem hlt] at hp'
          exact Option.some.inj hp'
        refine hand_draw [] (fun _ _ => True) rfl (by kernel_rfl) rfl ?_
        conv => whnf
        repeat (first | (refine rest_vc ?_; conv => whnf) | (refine ⟨by decide, ?_⟩; conv => whnf))
        refine ⟨bd, fun p hp => ?_⟩
        obtain rfl := ld p hp
        conv => whnf
        repeat (first | (refine rest_vc ?_; conv => whnf) | (refine ⟨by decide, ?_⟩; conv => whnf))
        refine ⟨bd, fun p hp => ?_⟩
        obtain rfl := ld p hp
        conv => whnf
        repeat (first | (refine rest_vc ?_; conv => whnf) | (refine ⟨by decide, ?_⟩; conv => whnf))
        intro _
        conv => whnf
        repeat (first | (refine rest_vc ?_; conv => whnf) | (refine ⟨by decide, ?_⟩; conv => whnf))
        exact ⟨k + 1, _, fun _ => 0, hlt, by omega, rfl, ⟨rfl, rfl, congrArg (vI .i64) (succ64 (by omega)), trivial⟩, rfl, fun _ _ => rfl⟩
      · conv => whnf
        repeat (first | (refine rest_vc ?_; conv => whnf) | (refine ⟨by decide, ?_⟩; conv => whnf))
        intro _
        conv => whnf
        repeat (first | (refine rest_vc ?_; conv => whnf) | (refine ⟨by decide, ?_⟩; conv => whnf))
        split <;> rename_i g4 <;> (conv => whnf) <;> repeat (first | (refine rest_vc ?_; conv => whnf) | (refine ⟨by decide, ?_⟩; conv => whnf))
        · exact ⟨rfl, _, rfl⟩
        · split <;> rename_i g5 <;> (conv => whnf) <;> repeat (first | (refine rest_vc ?_; conv => whnf) | (refine ⟨by decide, ?_⟩; conv => whnf))
          · exact ⟨rfl, _, rfl⟩
          · exact ⟨rfl, _, rfl⟩

def newR : Rst := ⟨[], [], [], [], []⟩
theorem rNew_ok : CallOk Tryz.prog 18 [] [] fun r st' => r = .ptr 0 0 ∧ st' = rs newR := by
  refine callOk_of false 1 Tryz.func18 rfl rfl (Nat.zero_le _) ?_
  conv => whnf
  repeat (refine ⟨by decide, ?_⟩; conv => whnf)
  refine rest_vc ?_
  conv => whnf
  repeat (refine ⟨by decide, ?_⟩; conv => whnf)
  refine rest_nils 0 [some 3, some 3, some 5, some 1, some 2] rfl ?_
  refine rest_vc ?_
  conv => whnf
  repeat (first | (refine rest_vc ?_; conv => whnf) | (refine ⟨by decide, ?_⟩; conv => whnf))
  exact ⟨rfl, rfl⟩

/-- Both books behind so many acts. -/
def runI (x : Scr) : Nat → Bst × Rst
  | 0 => (newB, newR)
  | i + 1 => match x.acts[i]? with
    | none => runI x i
    | some a => (playB (runI x i).1 (runI x i).2 x a).2
def bgS (b : Bst) (r : Rst) : List Ob := [.gone, .gone, .map b.k.asked, .map b.k.rules, .map b.k.off, .map b.k.names,
  .cells 75 [vI .i32 0, vI .u32 0, .vref 8 b.k.vr, .mref 2, .mref 3, .vref 9 b.k.vp, .mref 4, .mref 5], .cells 78 (rbC r), .vec b.k.vr 44 3 b.k.nr b.k.rows, .vec b.k.vp 100 5 b.k.np b.k.prefs]

/-- What the walk of a script asks of the plain law. -/
structure Good (x : Scr) : Prop where
  rows : (x.rows.length : Int) ≤ 2000000
  names : (x.names.length : Int) ≤ 2000000
  acts : (x.acts.length : Int) ≤ 2000000
  na : ∀ n : Int, ((nameAt x n).a.length : Int) ≤ 2000000
  nx : ∀ n : Int, ((nameAt x n).x.size : Int) ≤ 2000000
  rz : ∀ n : Int, (rowAt x n).ok
  sz : ∀ a ∈ x.acts, (a.s.size : Int) ≤ 2000000
  small : ∀ i, Small (runI x i).1 (runI x i).2
  same : ∀ i a, x.acts[i]? = some a → (playB (runI x i).1 (runI x i).2 x a).1 = true

theorem begun_ok (h39 : IsW 66) (h43 : IsW 69) (hso : SortS 72) (x : Scr) (hx : Good x) :
    CallOk Tryz.prog 7 [.pure (pvX x)] [] fun r st' => r = .tup [.ptr 6 0, .ptr 7 0, vB true] ∧ st' = bgS (runI x x.acts.length).1 (runI x x.acts.length).2 := by
  have e3 : (x.acts.map pvA).length = x.acts.length := List.length_map ..
  have ha := hx.acts
  refine callOk_of false 10 Tryz.func7 rfl rfl (Nat.zero_le _) ?_
  conv => whnf
  repeat (refine ⟨by decide, ?_⟩; conv => whnf)
  refine rest_frc 0 rfl rfl ?_
  refine rest_vc ?_
  conv => whnf
  repeat (refine ⟨by decide, ?_⟩; conv => whnf)
  refine CallIn.o [] New_ok (k := ?_)
  rintro r st' ⟨rfl, rfl⟩
  conv => whnf
  repeat (refine ⟨by decide, ?_⟩; conv => whnf)
  refine CallIn.o [] rNew_ok (k := ?_)
  rintro r st' ⟨rfl, rfl⟩
  conv => whnf
  repeat (refine ⟨by decide, ?_⟩; conv => whnf)
  refine rest_drop 1 ?_
  refine rest_ghostk 6 2 44 3 rfl rfl ?_
  refine rest_ghostk 6 5 100 5 rfl rfl ?_
  refine rest_vc ?_
  conv => whnf
  repeat (first | (refine rest_vc ?_; conv => whnf) | (refine ⟨by decide, ?_⟩; conv => whnf))
  refine awp_loop (n := 31) (α := Nat) (fun i => i ≤ x.acts.length) (fun i => [(1, .ipt [.list 3 x.rn (x.rows.map pvR), .list 2 x.nn (x.names.map pvN), .list 6 x.an (x.acts.map pvA)]), (5, .ptr 6 0), (6, .ptr 7 0), (7, vI .i64 i)])
    (fun i => bgS (runI x i).1 (runI x i).2) (fun i => x.acts.length - i) 0 (fun _ => 0) (Nat.zero_le _) rfl ⟨rfl, rfl, rfl, rfl, trivial⟩ rfl (fun _ _ => rfl) (fun _ => ⟨Nat.zero_le _, rfl, rfl⟩) ?_
  rintro i hi
  have hsm := hx.small i
  have hru : ∀ a, x.acts[i]? = some a → (runI x (i + 1)) = (playB (runI x i).1 (runI x i).2 x a).2 := fun a h => by rw [runI, h]
  have hsa := hx.same i
  obtain ⟨b, hb⟩ : ∃ b, b = (runI x i).1 := ⟨_, rfl⟩
  obtain ⟨r, hr⟩ : ∃ r, r = (runI x i).2 := ⟨_, rfl⟩
  rw [← hb, ← hr] at hsm hru hsa ⊢
  conv => whnf
  repeat (first | (refine rest_vc ?_; conv => whnf) | (refine ⟨by decide, ?_⟩; conv => whnf))
  intro _
  conv => whnf
  repeat (first | (refine rest_vc ?_; conv => whnf) | (refine ⟨by decide, ?_⟩; conv => whnf))
  split <;> rename_i g1 <;> (conv => whnf) <;> repeat (first | (refine rest_vc ?_; conv => whnf) | (refine ⟨by decide, ?_⟩; conv => whnf))
  · have hlt : i < x.acts.length := by have : (i : Int) < ((x.acts.map pvA).length : Int) := of_decide_eq_true g1; omega
    obtain ⟨a, haa⟩ : ∃ a, a = x.acts[i] := ⟨_, rfl⟩
    have hq : x.acts[i]? = some a := by rw [haa]; exact List.getElem?_eq_getElem hlt
    have hc := play_ok h39 h43 hso b r hsm x a hx.rows hx.names (hx.rz _) (hx.sz a (List.mem_of_getElem? hq)) (hx.na _) (hx.nx _)
    have hru := hru a hq
    rw [hsa a hq] at hc
    generalize playB b r x a = B at hc hru
    obtain ⟨c, b1, r1⟩ := B
    simp only at hc hru
    refine hand_drawL {} [8] (fun _ _ => True) rfl (by kernel_rfl) rfl ?_
    conv => whnf
    repeat (first | (refine rest_vc ?_; conv => whnf) | (refine ⟨by decide, ?_⟩; conv => whnf))
    refine ⟨⟨by omega, by show (i : Int) < ((x.acts.map pvA).length : Int); omega⟩, fun p hp => ?_⟩
    have hp' : (x.acts.map pvA)[i]? = some p := by simpa using hp
    rw [List.getElem?_map, hq] at hp'
    obtain rfl : pvA a = p := Option.some.inj hp'
    conv => whnf
    repeat (first | (refine rest_vc ?_; conv => whnf) | (refine ⟨by decide, ?_⟩; conv => whnf))
    refine CallIn.oe [6, 8, 2, 3, 9, 4, 5, 7] hc (vB true) (bgS b1 r1) rfl rfl ?_
    conv => whnf
    repeat (first | (refine rest_vc ?_; conv => whnf) | (refine ⟨by decide, ?_⟩; conv => whnf))
    exact ⟨i + 1, fun _ => 0, hlt, by omega, rfl, ⟨rfl, rfl, rfl, congrArg (vI .i64) (succ64 (by omega)), trivial⟩, by rw [hru]; rfl, fun _ _ => rfl⟩
  · have hil : i = x.acts.length := by have : ¬ (i : Int) < ((x.acts.map pvA).length : Int) := of_decide_eq_false g1; omega
    subst hil
    conv => whnf
    repeat (first | (refine rest_vc ?_; conv => whnf) | (refine ⟨by decide, ?_⟩; conv => whnf))
    exact ⟨rfl, by rw [← hb, ← hr]; rfl⟩
end Go.Proofs.YtafngalmkblipaaGreatDoor
/- law10: what the document gives; the law's walk. -/
set_option linter.all false
set_option maxHeartbeats 4000000
set_option maxRecDepth 100000
namespace Go.Proofs.YtafngalmkblipaaGreatDoor
open Go Go.RowKit Go.Sy Go.Proofs

abbrev sT : ByteArray := ⟨#[116]⟩
abbrev sDns : ByteArray := ⟨#[100, 110, 115]⟩
abbrev sWeb : ByteArray := ⟨#[119, 101, 98]⟩
abbrev sOdd : ByteArray := ⟨#[111, 100, 100]⟩
theorem word_t : isWordB sT = true := by unfold isWordB; rw [ByteArray.toList_eq]; decide
theorem word_dns : isWordB sDns = true := by unfold isWordB; rw [ByteArray.toList_eq]; decide
theorem word_web : isWordB sWeb = true := by unfold isWordB; rw [ByteArray.toList_eq]; decide
theorem word_odd : isWordB sOdd = true := by unfold isWordB; rw [ByteArray.toList_eq]; decide
theorem eqBA_data (a b : ByteArray) : eqBA a b = (a.data.toList == b.data.toList) := by unfold eqBA; rw [ByteArray.toList_eq, ByteArray.toList_eq]
def kb1 : Bst := ⟨[⟨sT, 53, sDns⟩], [((sT, 53), sDns)], [], [], [], [], 1, 0⟩
def kb2 : Bst := ⟨[⟨sT, 53, sDns⟩, ⟨sT, 80, sWeb⟩], [((sT, 53), sDns), ((sT, 80), sWeb)], [], [], [], [], 2, 0⟩
def kb3 : Bst := ⟨[⟨sT, 53, sDns⟩, ⟨sT, 80, sWeb⟩], [((sT, 53), sDns), ((sT, 80), sWeb)], [((sT, 53), sOdd)], [], [], [], 2, 0⟩
theorem k1 : rowB newB ⟨sT, 53, sDns⟩ = (0, kb1) := by
  unfold rowB
  rw [if_neg (by unfold isRowB; simp only [word_t, word_dns]; decide)]
  rfl
theorem k2 : rowB kb1 ⟨sT, 80, sWeb⟩ = (0, kb2) := by
  unfold rowB
  rw [if_neg (by unfold isRowB; simp only [word_t, word_web]; decide)]
  simp [kb1, kb2, lkI, eqSp, setK, eqBA_data]
theorem k3 : ruleB kb2 ⟨sT, 53, sOdd⟩ = (0, kb3) := by
  unfold ruleB
  rw [if_neg (by unfold isRowB; simp only [word_t, word_odd]; decide)]
  simp [kb2, kb3, lkI, setK]
theorem ko2 : ofB kb2 (sT, 53) = some sDns := by
  have h : lkI eqSp ((sT, 53) : Spot) kb2.asked 0 = some (0, sDns) := by
    have e : eqSp ((sT, 53) : Spot) (sT, 53) = true := by unfold eqSp; rw [eqBA_refl]; rfl
    unfold kb2
    simp only [lkI, e, if_true]
  have h2 : of1 kb2 kb2.rules (sT, 53) = none := rfl
  unfold ofB
  rw [h2]
  unfold of1
  rw [h]
  rfl
theorem ko3 : ofB kb3 (sT, 53) = some sOdd := by
  have h : lkI eqSp ((sT, 53) : Spot) kb3.rules 0 = some (0, sOdd) := by
    have e : eqSp ((sT, 53) : Spot) (sT, 53) = true := by unfold eqSp; rw [eqBA_refl]; rfl
    unfold kb3
    simp only [lkI, e, if_true]
  have h2 : of1 kb3 kb3.rules (sT, 53) = some sOdd := by
    unfold of1
    rw [h]
    rfl
  unfold ofB
  rw [h2]
theorem kp2 : portB kb2 sT 80 53 sLower = some (some sDns) := by
  unfold portB
  rw [if_pos (by exact beq_self_eq_true _)]
  unfold firB
  rw [show min (80 : Int) 53 = 53 by decide, ko2]
theorem kp3 : portB kb3 sT 80 53 sLower = some (some sOdd) := by
  unfold portB
  rw [if_pos (by exact beq_self_eq_true _)]
  unfold firB
  rw [show min (80 : Int) 53 = 53 by decide, ko3]

def kS (b : Bst) : List Ob := [.gone, .map b.k.asked, .map b.k.rules, .map b.k.off, .map b.k.names,
  .cells 75 [vI .i32 0, vI .u32 0, .vref 6 b.k.vr, .mref 1, .mref 2, .vref 7 b.k.vp, .mref 3, .mref 4], .vec b.k.vr 44 3 b.k.nr b.k.rows, .vec b.k.vp 100 5 b.k.np b.k.prefs]

theorem known_ok (h39 : IsW 66) : CallOk Tryz.prog 6 [] [] fun r st' => st' = [] ∧ r = vB true := by
  have c1 := Row_ok h39 newB ⟨sT, 53, sDns⟩ ⟨by decide, by decide⟩ (by decide)
  rw [k1] at c1
  have c2 := Row_ok h39 kb1 ⟨sT, 80, sWeb⟩ ⟨by decide, by decide⟩ (by decide)
  rw [k2] at c2
  have c3 := Port_ok kb2 sT 80 53 sLower
  rw [kp2] at c3
  have c4 := Rule_ok h39 kb2 ⟨sT, 53, sOdd⟩ ⟨by decide, by decide⟩ (by decide)
  rw [k3] at c4
  have c5 := Port_ok kb3 sT 80 53 sLower
  rw [kp3] at c5
  have w1 : (sDns.toList == sDns.toList) = true := beq_self_eq_true _
  have w2 : (sOdd.toList == sOdd.toList) = true := beq_self_eq_true _
  generalize kb1 = b1 at c1 c2
  generalize kb2 = b2 at c2 c3 c4
  generalize kb3 = b3 at c4 c5
  obtain ⟨s1, hs1⟩ : ∃ s1, s1 = sDns := ⟨_, rfl⟩
  obtain ⟨s2, hs2⟩ : ∃ s2, s2 = sOdd := ⟨_, rfl⟩
  rw [← hs1] at c3
  rw [← hs2] at c5
  have w1 : (s1.toList == sDns.toList) = true := by rw [hs1]; exact w1
  have w2 : (s2.toList == sOdd.toList) = true := by rw [hs2]; exact w2
  clear hs1 hs2
  refine callOk_of true 0 Tryz.func6 rfl rfl (Nat.zero_le _) ?_
  conv => whnf
  repeat (refine ⟨by decide, ?_⟩; conv => whnf)
  refine rest_vc ?_
  conv => whnf
  repeat (refine ⟨by decide, ?_⟩; conv => whnf)
  refine CallIn.o [] New_ok (k := ?_)
  rintro r st' ⟨rfl, rfl⟩
  conv => whnf
  repeat (refine ⟨by decide, ?_⟩; conv => whnf)
  refine rest_drop 0 ?_
  refine rest_ghostk 5 2 44 3 rfl rfl ?_
  refine rest_ghostk 5 5 100 5 rfl rfl ?_
  refine rest_vc ?_
  conv => whnf
  repeat (first | (refine rest_vc ?_; conv => whnf) | (refine ⟨by decide, ?_⟩; conv => whnf))
  refine CallIn.oe [5, 6, 1, 2, 7, 3, 4] c1 (vI .i64 0) (kS b1) rfl rfl ?_
  conv => whnf
  repeat (first | (refine rest_vc ?_; conv => whnf) | (refine ⟨by decide, ?_⟩; conv => whnf))
  refine CallIn.oe [5, 6, 1, 2, 7, 3, 4] c2 (vI .i64 0) (kS b2) rfl rfl ?_
  conv => whnf
  repeat (first | (refine rest_vc ?_; conv => whnf) | (refine ⟨by decide, ?_⟩; conv => whnf))
  refine CallIn.oe [5, 6, 1, 2, 7, 3, 4] c3 (portT (some (some s1))) (kS b2) rfl rfl ?_
  conv => whnf
  repeat (first | (refine rest_vc ?_; conv => whnf) | (refine ⟨by decide, ?_⟩; conv => whnf))
  refine CallIn.oe [5, 6, 1, 2, 7, 3, 4] c4 (vI .i64 0) (kS b3) rfl rfl ?_
  conv => whnf
  repeat (first | (refine rest_vc ?_; conv => whnf) | (refine ⟨by decide, ?_⟩; conv => whnf))
  refine CallIn.oe [5, 6, 1, 2, 7, 3, 4] c5 (portT (some (some s2))) (kS b3) rfl rfl ?_
  conv => whnf
  repeat (first | (refine rest_vc ?_; conv => whnf) | (refine ⟨by decide, ?_⟩; conv => whnf))
  split <;> rename_i g1 <;> (conv => whnf) <;> repeat (first | (refine rest_vc ?_; conv => whnf) | (refine ⟨by decide, ?_⟩; conv => whnf))
  · split <;> rename_i g2 <;> (conv => whnf) <;> repeat (first | (refine rest_vc ?_; conv => whnf) | (refine ⟨by decide, ?_⟩; conv => whnf))
    · exact ⟨rfl, rfl⟩
    · exact absurd (w2.symm.trans g2) (by decide)
  · exact absurd (w1.symm.trans g1) (by decide)

/-! ## the law -/
def portV (r : Option (Option ByteArray)) : ByteArray × Bool × Int := match r with | none => (noS, false, 1) | some o => ((optR o).1, (optR o).2, 0)
def rportV (r : Option ByteArray) : ByteArray × Bool × Int := match r with | none => (noS, false, 1) | some v => (v, !eqBA v noS, 0)
theorem portT_V (r : Option (Option ByteArray)) : portT r = .tup [vS (portV r).1, vB (portV r).2.1, vI .i64 (portV r).2.2] := by cases r <;> rfl
theorem rportT_V (r : Option ByteArray) : rportT r = .tup [vS (rportV r).1, vB (rportV r).2.1, vI .i64 (rportV r).2.2] := by cases r <;> rfl

def lS (b : Bst) (r : Rst) : List Ob := [.gone, .gone, .gone, .gone, .gone, .map b.k.asked, .map b.k.rules, .map b.k.off, .map b.k.names,
  .cells 75 [vI .i32 0, vI .u32 0, .vref 11 b.k.vr, .mref 5, .mref 6, .vref 12 b.k.vp, .mref 7, .mref 8], .cells 78 (rbC r), .vec b.k.vr 44 3 b.k.nr b.k.rows, .vec b.k.vp 100 5 b.k.np b.k.prefs]

end Go.Proofs.YtafngalmkblipaaGreatDoor
/- law10, the plain law: both books go together. -/
set_option linter.all false
set_option maxHeartbeats 4000000
set_option maxRecDepth 100000
namespace Go.Proofs.YtafngalmkblipaaGreatDoor
open Go Go.RowKit Go.Sy Go.Proofs

theorem BA_ext {a b : ByteArray} (h : a.data.toList = b.data.toList) : a = b := by
  cases a; cases b
  simp only at h
  congr
  exact Array.toList_inj.1 h
theorem eqBA_iff {a b : ByteArray} : eqBA a b = true ↔ a = b := by
  rw [eqBA_data]
  exact ⟨fun h => BA_ext (beq_iff_eq.1 h), fun h => by rw [h]; exact beq_self_eq_true _⟩
theorem eqSp_iff {a b : Spot} : eqSp a b = true ↔ a = b := by
  unfold eqSp
  simp only [Bool.and_eq_true, eqBA_iff, beq_iff_eq]
  exact ⟨fun ⟨h1, h2⟩ => Prod.ext h1 h2, fun h => by rw [h]; exact ⟨rfl, rfl⟩⟩

section
variable {κ ν : Type} {eq : κ → κ → Bool}
theorem lkI_none {a : κ} : ∀ {l : List (κ × ν)} {i : Nat}, lkI eq a l i = none → ∀ e ∈ l, eq a e.1 = false
  | [], i, _, e, he => by cases he
  | x :: l, i, h, e, he => by
    unfold lkI at h
    split at h
    · cases h
    · rename_i hx
      rcases List.mem_cons.1 he with rfl | he
      · simpa using hx
      · exact lkI_none h e he
theorem lkI_some {a : κ} {j : Nat} {v : ν} : ∀ {l : List (κ × ν)} {i : Nat}, lkI eq a l i = some (j, v) → ∃ l1 k l2, l = l1 ++ (k, v) :: l2 ∧ j = i + l1.length ∧ eq a k = true ∧ ∀ e ∈ l1, eq a e.1 = false
  | [], i, h => by cases h
  | x :: l, i, h => by
    unfold lkI at h
    split at h
    · rename_i hx
      cases h
      exact ⟨[], x.1, l, rfl, rfl, hx, by simp⟩
    · rename_i hx
      obtain ⟨l1, k, l2, rfl, h2, h3, h4⟩ := lkI_some h
      refine ⟨x :: l1, k, l2, rfl, by simp only [List.length_cons]; omega, h3, fun e he => ?_⟩
      rcases List.mem_cons.1 he with rfl | he
      · simpa using hx
      · exact h4 e he
variable (heq : ∀ a b, eq a b = true ↔ a = b)
include heq
theorem lkI_none_iff {a : κ} {l : List (κ × ν)} : lkI eq a l 0 = none ↔ a ∉ l.map (·.1) := by
  constructor
  · intro h hm
    obtain ⟨e, he, rfl⟩ := List.mem_map.1 hm
    have := lkI_none h e he
    rw [(heq _ _).2 rfl] at this
    cases this
  · intro h
    cases hl : lkI eq a l 0 with
    | none => rfl
    | some x =>
      obtain ⟨l1, k, l2, rfl, _, h3, _⟩ := lkI_some hl
      exact (h (by rw [(heq _ _).1 h3]; simp)).elim
theorem lkI_val {a : κ} {v : ν} {l : List (κ × ν)} (hn : (l.map (·.1)).Nodup) : (lkI eq a l 0).map (·.2) = some v ↔ (a, v) ∈ l := by
  constructor
  · intro h
    obtain ⟨x, hx, rfl⟩ := Option.map_eq_some_iff.1 h
    obtain ⟨l1, k, l2, rfl, _, h3, _⟩ := lkI_some hx
    rw [(heq _ _).1 h3]; simp
  · intro h
    cases hl : lkI eq a l 0 with
    | none => exact ((lkI_none_iff heq).1 hl (List.mem_map.2 ⟨_, h, rfl⟩)).elim
    | some x =>
      obtain ⟨l1, k, l2, rfl, _, h3, _⟩ := lkI_some hl
      obtain rfl := (heq _ _).1 h3
      simp only [Option.map_some, Option.some.injEq]
      have hnd := hn
      rw [List.map_append, List.map_cons, List.nodup_append] at hnd
      obtain ⟨n1, n2, n3⟩ := hnd
      rcases List.mem_append.1 h with h | h
      · exact (n3 a (List.mem_map.2 ⟨_, h, rfl⟩) a (by simp) rfl).elim
      · rcases List.mem_cons.1 h with h | h
        · exact (congrArg Prod.snd h).symm
        · exact ((List.nodup_cons.1 n2).1 (List.mem_map.2 ⟨_, h, rfl⟩)).elim
theorem filter_split {a : κ} {v : ν} {l1 l2 : List (κ × ν)} (hn : ((l1 ++ (a, v) :: l2).map (·.1)).Nodup) : (l1 ++ (a, v) :: l2).filter (fun e => !eq a e.1) = l1 ++ l2 := by
  rw [List.map_append, List.map_cons, List.nodup_append] at hn
  obtain ⟨n1, n2, n3⟩ := hn
  have ne : ∀ b, b ≠ a → (!eq a b) = true := fun b hb => by
    cases h : eq a b with
    | false => rfl
    | true => exact (hb ((heq _ _).1 h).symm).elim
  rw [List.filter_append, List.filter_cons_of_neg (by rw [(heq a a).2 rfl]; simp)]
  congr 1
  · exact List.filter_eq_self.2 fun e he => ne _ fun h => n3 a (h ▸ List.mem_map.2 ⟨e, he, rfl⟩) a (by simp) rfl
  · exact List.filter_eq_self.2 fun e he => ne _ fun h => (List.nodup_cons.1 n2).1 (h ▸ List.mem_map.2 ⟨e, he, rfl⟩)
theorem setK_perm {a : κ} {v : ν} {l : List (κ × ν)} (hn : (l.map (·.1)).Nodup) : (setK eq a v l).Perm ((a, v) :: l.filter fun e => !eq a e.1) := by
  unfold setK
  cases hl : lkI eq a l 0 with
  | none =>
    simp only
    have := lkI_none hl
    rw [List.filter_eq_self.2 fun e he => by rw [this e he]; rfl]
    exact List.perm_append_singleton _ _
  | some x =>
    obtain ⟨j, w⟩ := x
    obtain ⟨l1, k, l2, rfl, rfl, h3, _⟩ := lkI_some hl
    obtain rfl := (heq _ _).1 h3
    rw [filter_split heq hn]
    simp only [Nat.zero_add, List.set_append_right _ _ (Nat.le_refl _), Nat.sub_self, List.set_cons_zero]
    exact List.perm_middle
theorem delK_perm {a : κ} {l : List (κ × ν)} (hn : (l.map (·.1)).Nodup) : (delK eq a l).Perm (l.filter fun e => !eq a e.1) := by
  unfold delK
  cases hl : lkI eq a l 0 with
  | none =>
    simp only
    have := lkI_none hl
    rw [List.filter_eq_self.2 fun e he => by rw [this e he]; rfl]
  | some x =>
    obtain ⟨j, w⟩ := x
    obtain ⟨l1, k, l2, rfl, rfl, h3, _⟩ := lkI_some hl
    obtain rfl := (heq _ _).1 h3
    rw [filter_split heq hn]
    simp only [Nat.zero_add]
    rw [List.eraseIdx_append_of_length_le (Nat.le_refl _)]
    simp
theorem filter_keys {a : κ} {l : List (κ × ν)} (hn : (l.map (·.1)).Nodup) : ((l.filter fun e => !eq a e.1).map (·.1)).Nodup ∧ a ∉ (l.filter fun e => !eq a e.1).map (·.1) := by
  refine ⟨(List.filter_sublist.map _).nodup hn, fun h => ?_⟩
  obtain ⟨e, he, h⟩ := List.mem_map.1 h
  have := (List.mem_filter.1 he).2
  rw [h, (heq a a).2 rfl] at this
  cases this
theorem setK_keys {a : κ} {v : ν} {l : List (κ × ν)} (hn : (l.map (·.1)).Nodup) : ((setK eq a v l).map (·.1)).Nodup := by
  have h := (setK_perm heq (v := v) (a := a) hn).map (·.1)
  refine h.nodup_iff.2 ?_
  obtain ⟨h1, h2⟩ := filter_keys heq (a := a) hn
  exact List.nodup_cons.2 ⟨h2, h1⟩
theorem delK_keys {a : κ} {l : List (κ × ν)} (hn : (l.map (·.1)).Nodup) : ((delK eq a l).map (·.1)).Nodup :=
  ((delK_perm heq (a := a) hn).map (·.1)).nodup_iff.2 (filter_keys heq hn).1
end

/-! ## the first one of some -/
theorem fstI_neg {α : Type} {f : α → Bool} : ∀ {l : List α} {i : Nat}, fstI f l i < 0 → ∀ x ∈ l, f x = false
  | [], i, _, x, hx => by cases hx
  | y :: l, i, h, x, hx => by
    unfold fstI at h
    split at h
    · omega
    · rename_i hy
      rcases List.mem_cons.1 hx with rfl | hx
      · simpa using hy
      · exact fstI_neg h x hx
theorem fstI_pos {α : Type} {f : α → Bool} : ∀ {l : List α} {i : Nat}, 0 ≤ fstI f l i → ∃ l1 x l2, l = l1 ++ x :: l2 ∧ fstI f l i = i + l1.length ∧ f x = true ∧ ∀ y ∈ l1, f y = false
  | [], i, h => by simp [fstI] at h
  | y :: l, i, h => by
    unfold fstI at h ⊢
    split at h
    · rename_i hy
      exact ⟨[], y, l, rfl, by rw [if_pos hy]; simp, hy, by simp⟩
    · rename_i hy
      obtain ⟨l1, x, l2, rfl, h2, h3, h4⟩ := fstI_pos h
      refine ⟨y :: l1, x, l2, rfl, by rw [if_neg hy, h2]; simp only [List.length_cons]; omega, h3, fun z hz => ?_⟩
      rcases List.mem_cons.1 hz with rfl | hz
      · simpa using hy
      · exact h4 z hz
theorem outK_neg {α : Type} {l : List α} {a : Int} (h : a < 0) : ∀ i, outK l a i = l.take i
  | 0 => rfl
  | i + 1 => by
    rw [outK, outK_neg h i, if_neg (by omega), List.take_add_one]
theorem outK_pos {α : Type} {l1 l2 : List α} {x : α} {a : Int} (h : a = l1.length) : outK (l1 ++ x :: l2) a (l1 ++ x :: l2).length = l1 ++ l2 := by
  have key : ∀ i, outK (l1 ++ x :: l2) a i = if i ≤ l1.length then (l1 ++ x :: l2).take i else l1 ++ l2.take (i - l1.length - 1) := by
    intro i
    induction i with
    | zero => rfl
    | succ i ih =>
      rw [outK, ih]
      by_cases h1 : i < l1.length
      · rw [if_pos (by omega), if_neg (by omega), if_pos (by omega), List.take_add_one]
      · by_cases h2 : i = l1.length
        · subst h2
          rw [if_pos (Nat.le_refl _), if_pos (by omega), if_neg (by omega)]
          simp
        · rw [if_neg (by omega), if_neg (by omega), if_neg (by omega)]
          have : (l1 ++ x :: l2)[i]? = l2[i - l1.length - 1]? := by
            rw [List.getElem?_append_right (by omega), show i - l1.length = (i - l1.length - 1) + 1 by omega, List.getElem?_cons_succ]
            simp
          rw [this, List.append_assoc, ← List.take_add_one, show i - l1.length - 1 + 1 = i + 1 - l1.length - 1 by omega]
  rw [key, if_neg (by simp)]
  congr 1
  exact List.take_of_length_le (by simp)
end Go.Proofs.YtafngalmkblipaaGreatDoor
