/- NamesPorts: which protocol two ports have in a table: for every script, texts and numbers where what is read is of bulk at most 1048576 the law gives true. Conditions: that bound, which the statement itself bears, and the listed variables of the library's, which the card ties. -/
import Derived.Test.YtnbgojbmlnohhaaGreatDoorQ6
import Derived.Test.YtnbgojbmlnohhaaGreatDoorCards
import Derived.Test.YtnbgojbmlnohhaaGreatDoorTie
import Derived.Deep.DeepHandedRow
import Derived.Lib.LaidU8
import Derived.Stop.LaidErr
import Derived.Deep.DeepWitnessRowRef
import Derived.SevenTiedAt
/- law10: whether a text is a word: the scanner's way and the reference's are one. -/
set_option linter.all false
set_option maxHeartbeats 4000000
set_option maxRecDepth 100000
namespace Go.Proofs.YtnbgojbmlnohhaaGreatDoor
open Go Go.RowKit Go.Sy Go.Proofs

theorem has2_all : ((List.range 256).all fun c => hasI [2] (clsN c : Nat) == isLet c) = true := by kernel_rfl
theorem has23_all : ((List.range 256).all fun c => hasI [2, 3] (clsN c : Nat) == isPrt c) = true := by kernel_rfl
theorem has2 {c : Nat} (h : c < 256) : hasI [2] (clsN c : Nat) = isLet c := by
  have := List.all_eq_true.1 has2_all c (List.mem_range.2 h)
  simpa using this
theorem has23 {c : Nat} (h : c < 256) : hasI [2, 3] (clsN c : Nat) = isPrt c := by
  have := List.all_eq_true.1 has23_all c (List.mem_range.2 h)
  simpa using this
theorem isC2 (s : ByteArray) (i : Nat) : isC s i [2] = isLet (atB s.toList i) := by
  unfold isC
  rw [has2 (atB_lt _ _)]
  by_cases h : i < s.size
  · rw [decide_eq_true h]; rfl
  · rw [decide_eq_false h, atB_out (by omega)]; rfl
theorem isC23 (s : ByteArray) (i : Nat) : isC s i [2, 3] = isPrt (atB s.toList i) := by
  unfold isC
  rw [has23 (atB_lt _ _)]
  by_cases h : i < s.size
  · rw [decide_eq_true h]; rfl
  · rw [decide_eq_false h, atB_out (by omega)]; rfl
theorem wEnd_eq (s : ByteArray) : ∀ (f i : Nat), s.size ≤ i + f → i ≤ s.size → wEnd s.toList f i = wdN s (bhdN s [2, 3] i)
  | 0, i, h, hi => by
    rw [wEnd, bhdN_at, isC_out (by omega), if_neg (by decide), wdN_at, decide_eq_false (by omega)]
    rfl
  | f + 1, i, h, hi => by
    rw [wEnd]
    by_cases h1 : isPrt (atB s.toList i) = true
    · have hlt : i < s.size := by
        by_cases hh : i < s.size
        · exact hh
        · rw [atB_out (by omega)] at h1; cases h1
      rw [if_pos h1, bhdN_at, isC23, if_pos h1]
      exact wEnd_eq s f (i + 1) (by omega) (by omega)
    · rw [if_neg h1]
      have e : bhdN s [2, 3] i = i := by rw [bhdN_at, isC23, if_neg h1]
      rw [e, wdN_at, isC23]
      by_cases h2 : (atB s.toList i == 46 && isPrt (atB s.toList (i + 1))) = true
      · rw [if_pos h2]
        simp only [Bool.and_eq_true] at h2
        have hlt : i + 1 < s.size := by
          by_cases hh : i + 1 < s.size
          · exact hh
          · rw [atB_out (i := i + 1) (by omega)] at h2; exact absurd h2.2 (by decide)
        rw [decide_eq_true (by omega), h2.1, h2.2, if_pos (by rfl), bhdN_at, isC23, if_pos h2.2]
        by_cases h3 : i + 2 ≤ s.size
        · exact wEnd_eq s f (i + 2) (by omega) h3
        · omega
      · rw [if_neg h2, if_neg (fun hh => h2 (by simp only [Bool.and_eq_true] at hh ⊢; exact ⟨hh.1.2, hh.2⟩))]
theorem isWd_eq (s : ByteArray) : isWd s = isWordB s := by
  have hsz := size_toList s
  unfold isWd isWordB
  rw [isC2, hsz]
  by_cases h : isLet (atB s.toList 0) = true
  · have hpos : 0 < s.size := by
      by_cases hh : 0 < s.size
      · exact hh
      · rw [atB_out (by omega)] at h; cases h
    have hne : s.toList.isEmpty = false := by
      cases hc : s.toList with
      | nil => rw [hc] at hsz; simp at hsz; omega
      | cons _ _ => rfl
    have hp : isPrt (atB s.toList 0) = true := by unfold isPrt; rw [h]; rfl
    have e0 : bhdN s [2, 3] 0 = bhdN s [2, 3] 1 := by rw [bhdN_at, isC23, if_pos hp]
    rw [h, hne, e0, wEnd_eq s s.size 1 (by omega) (by omega)]
    rfl
  · have h : isLet (atB s.toList 0) = false := by simpa using h
    rw [h, Bool.and_false]
    rfl

/-- What the taking of all tokens gives. -/
def LexR (s : ByteArray) (r : SV) : Prop := ∃ (nl : Bool) (l : List PV) (n e : Int), r = .tup [.pure (.list 4 nl l), vI .i64 n, vI .i64 e] ∧ (isWd s = true → e = 0 ∧ l = [tkW s]) ∧
  (isWd s = false → e ≠ 0 ∨ ∀ t, l.head? = some t → ¬ Bad s t) ∧ (e = 0 → (∀ t ∈ l, ∃ k n a x, t = tkA k n a x) ∧ l.length ≤ 6000)
theorem tokens_ok (T : TypeId) (xs : List PV) : CallOk Tryz.prog 68 [.ptr 0 0] [.row T 259 xs] fun r st' => r = .clo 83 [.ptr 1 0] ∧ st' = [.row T 259 xs, .cells 118 [.ptr 0 0]] := by
  refine callOk_of false 2 Tryz.func68 rfl rfl (by show 1 ≤ 2; decide) ?_
  conv => whnf
  repeat (first | (refine rest_vc ?_; conv => whnf) | (refine ⟨by decide, ?_⟩; conv => whnf))
  exact ⟨rfl, rfl⟩
theorem Lex_ok (s : ByteArray) (hs : (s.size : Int) ≤ 2000000) : CallOk Tryz.prog 51 [vS s] [] fun r st' => st' = [] ∧ LexR s r := by
  refine callOk_of true 0 Tryz.func51 rfl rfl (Nat.le_refl _) ?_
  conv => whnf
  repeat (first | (refine rest_vc ?_; conv => whnf) | (refine ⟨by decide, ?_⟩; conv => whnf))
  split <;> rename_i h1 <;> (conv => whnf) <;> repeat (first | (refine rest_vc ?_; conv => whnf) | (refine ⟨by decide, ?_⟩; conv => whnf))
  · have h1 := of_decide_eq_true h1
    refine ⟨rfl, _, _, _, _, rfl, fun h => ?_, fun _ => .inl (by decide), fun e => (by cases e)⟩
    have := (wd_at h).2.2
    omega
  · have h1 := of_decide_eq_false h1
    refine CallIn.o [] (newScanner_ok s) (k := ?_)
    rintro r st' ⟨rfl, rfl⟩
    conv => whnf
    repeat (first | (refine rest_vc ?_; conv => whnf) | (refine ⟨by decide, ?_⟩; conv => whnf))
    refine CallIn.o [4] (tokens_ok _ _) (k := ?_)
    rintro r st' ⟨rfl, rfl⟩
    conv => whnf
    repeat (first | (refine rest_vc ?_; conv => whnf) | (refine ⟨by decide, ?_⟩; conv => whnf))
    refine hand_ghostc 3 103 4 rfl ?_
    refine hand_range [7, 0, 1, 2, 3, 6, 4, 5] (iter_ok [vS s, .dead, .ptr 1 0, .ptr 2 0, .ptr 3 0, .ptr 4 0, .dead, .dead, vS s, vI .i64 s.size, vB false, vS s, .ptr 6 0, .clo 83 [.ptr 7 0], .dead, .dead, .dead, .dead, .dead, .dead, .dead, .dead, .dead, .dead, .dead, .dead, .dead, .dead, .dead, .dead] rfl _ _ _ s (by omega) ?_ ?_)
      ⟨_, Tryz.func83, rfl, by kernel_rfl⟩ rfl rfl rfl rfl rfl rfl rfl rfl ?_
    · rintro l p t hl ⟨k, n, a, x, rfl⟩
      refine roundOk_of rfl ?_
      conv => whnf
      repeat (first | (refine rest_vc ?_; conv => whnf) | (refine ⟨by decide, ?_⟩; conv => whnf))
      refine must_nn rfl ⟨by simp only [List.length_cons, List.length_nil]; show _ * 40 ≤ _; omega, ?_⟩
      conv => whnf
      repeat (first | (refine rest_vc ?_; conv => whnf) | (refine ⟨by decide, ?_⟩; conv => whnf))
      refine ⟨rfl, ?_⟩
      have e1 : (l ++ [tkA k n a x]).length = l.length + 1 := by simp
      have e2 : (l ++ [tkA k n a x]).isEmpty = (l.isEmpty && false) := by cases l <;> rfl
      unfold obT
      rw [e1, e2]
      rfl
    · intro l p k n a x
      refine roundOk_of rfl ?_
      conv => whnf
      repeat (first | (refine rest_vc ?_; conv => whnf) | (refine ⟨by decide, ?_⟩; conv => whnf))
      refine hand_frc 8 rfl rfl ?_
      refine hand_drawO [0, 1, 2, 3, 4] { lds := [1] } [2, 3, 4] (fun _ _ => True) rfl rfl (by kernel_rfl) (by kernel_rfl) rfl ?_
      conv => whnf
      repeat (first | (refine rest_vc ?_; conv => whnf) | (refine ⟨by decide, ?_⟩; conv => whnf))
      exact ⟨rfl, rfl⟩
    · rintro r st' ⟨rfl, hst⟩
      rcases hst with ⟨l, p, h2, h3, h4, h5, rfl⟩ | ⟨h2, l, a, p, rfl⟩
      · refine ⟨by decide, ?_⟩
        conv => whnf
        repeat (refine ⟨by decide, ?_⟩; conv => whnf)
        refine rest_norm 30 (fun o => if o = 6 then l.length else 0) [(2, .ptr 0 0), (3, .ptr 1 0), (4, .ptr 2 0), (5, .ptr 3 0)]
          [.cells 99 [.pure (.list 0 true [])], .cells 3 [vI .i64 0], .cells 35 [vI .i64 0], .cells 99 [.vref 6 0], scR s p (sgL sgs), .cells 118 [.ptr 4 0], .vec 0 103 4 l.isEmpty l] rfl ⟨rfl, rfl, rfl, rfl, trivial⟩ ?_ ⟨by show 0 ≤ 7; omega, rfl, rfl⟩ (fun o ho => absurd ho (Nat.not_lt_zero _)) ?_
        · simp [upSt, Ob.up, SV.upL, SV.up]
          rfl
        refine rest_vc ?_
        conv => whnf
        repeat (first | (refine rest_vc ?_; conv => whnf) | (refine ⟨by decide, ?_⟩; conv => whnf))
        intro _
        conv => whnf
        repeat (first | (refine rest_vc ?_; conv => whnf) | (refine ⟨by decide, ?_⟩; conv => whnf))
        split <;> rename_i h6 <;> (conv => whnf) <;> repeat (first | (refine rest_vc ?_; conv => whnf) | (refine ⟨by decide, ?_⟩; conv => whnf))
        · have h6 := of_decide_eq_true h6
          refine ⟨rfl, true, [], 0, 3, rfl, fun h => ?_, fun _ => .inl (by decide), fun e => (by cases e)⟩
          rw [h4 h] at h6
          have h6 : ((1 : Nat) : Int) > 2000 := h6
          omega
        · refine hand_frza 6 rfl ?_
          refine hand_frc 3 rfl rfl ?_
          refine hand_drawO [0, 1, 2, 3, 4, 5] { lds := [0, 1, 2] } [3, 4, 5] (fun _ _ => True) rfl rfl (by kernel_rfl) (by kernel_rfl) rfl ?_
          conv => whnf
          repeat (first | (refine rest_vc ?_; conv => whnf) | (refine ⟨by decide, ?_⟩; conv => whnf))
          refine must_iff.2 ⟨decide_eq_true (by omega), ?_⟩
          conv => whnf
          repeat (first | (refine rest_vc ?_; conv => whnf) | (refine ⟨by decide, ?_⟩; conv => whnf))
          intro _
          conv => whnf
          repeat (first | (refine rest_vc ?_; conv => whnf) | (refine ⟨by decide, ?_⟩; conv => whnf))
          exact ⟨rfl, l.isEmpty, l, l.length, 0, rfl, fun h => ⟨rfl, h4 h⟩, fun h => .inr (h5 h), fun _ => ⟨h3, h2⟩⟩
      · refine ⟨by decide, ?_⟩
        conv => whnf
        repeat (first | (refine rest_vc ?_; conv => whnf) | (refine ⟨by decide, ?_⟩; conv => whnf))
        exact ⟨rfl, true, [], a, 2, rfl, fun h => (by rw [h2] at h; cases h), fun _ => .inl (by decide), fun e => (by cases e)⟩

theorem isW39 : IsW 39 := by
  intro s hs
  rw [← isWd_eq]
  refine callOk_of true 0 Tryz.func39 rfl rfl (Nat.le_refl _) ?_
  conv => whnf
  repeat (first | (refine rest_vc ?_; conv => whnf) | (refine ⟨by decide, ?_⟩; conv => whnf))
  refine CallIn.top (Lex_ok s hs) (k := ?_)
  rintro r ⟨nl, l, n, e, rfl, h1, h2, h3⟩
  conv => whnf
  repeat (first | (refine rest_vc ?_; conv => whnf) | (refine ⟨by decide, ?_⟩; conv => whnf))
  split <;> rename_i h4 <;> (conv => whnf) <;> repeat (first | (refine rest_vc ?_; conv => whnf) | (refine ⟨by decide, ?_⟩; conv => whnf))
  · obtain rfl : e = 0 := beq_iff_eq.1 h4
    obtain ⟨h5, h6⟩ := h3 rfl
    intro _
    conv => whnf
    repeat (first | (refine rest_vc ?_; conv => whnf) | (refine ⟨by decide, ?_⟩; conv => whnf))
    split <;> rename_i h7 <;> (conv => whnf) <;> repeat (first | (refine rest_vc ?_; conv => whnf) | (refine ⟨by decide, ?_⟩; conv => whnf))
    · have h7 : l.length = 1 := by have h7 : ((l.length : Nat) : Int) = 1 := beq_iff_eq.1 h7; omega
      match l, h7 with
      | [t], _ =>
        obtain ⟨k, n', a, x, rfl⟩ := h5 t (by simp)
        have key : isWd s = (decide (k = 0) && eqBA x s) := by
          cases hh : isWd s with
          | true =>
            have e := (h1 hh).2
            unfold tkA tkW at e
            simp only [PV.agg.injEq, List.cons.injEq, PV.val.injEq, Value.int.injEq, Value.string.injEq, true_and, and_true] at e
            obtain ⟨rfl, rfl, rfl, rfl⟩ := e
            rw [decide_eq_true rfl, eqBA_iff.2 rfl]
            rfl
          | false =>
            have e := (h2 hh).resolve_left (fun e => e rfl) _ rfl
            by_cases hk : k = 0
            · subst hk
              rw [decide_eq_true rfl]
              cases hx : eqBA x s with
              | false => rfl
              | true =>
                have := eqBA_iff.1 hx
                subst this
                exact absurd ⟨n', a, rfl⟩ e
            · rw [decide_eq_false hk]
              rfl
        refine ⟨⟨Int.le_refl _, Int.zero_lt_one⟩, fun q hq => ?_⟩
        obtain rfl : tkA k n' a x = q := Option.some.inj hq
        conv => whnf
        repeat (first | (refine rest_vc ?_; conv => whnf) | (refine ⟨by decide, ?_⟩; conv => whnf))
        split <;> rename_i h8 <;> (conv => whnf) <;> repeat (first | (refine rest_vc ?_; conv => whnf) | (refine ⟨by decide, ?_⟩; conv => whnf))
        · obtain rfl : k = 0 := beq_iff_eq.1 h8
          rw [decide_eq_true rfl, Bool.true_and] at key
          refine ⟨⟨Int.le_refl _, Int.zero_lt_one⟩, fun q hq => ?_⟩
          obtain rfl : tkA 0 n' a x = q := Option.some.inj hq
          conv => whnf
          repeat (first | (refine rest_vc ?_; conv => whnf) | (refine ⟨by decide, ?_⟩; conv => whnf))
          split <;> rename_i h9 <;> (conv => whnf) <;> repeat (first | (refine rest_vc ?_; conv => whnf) | (refine ⟨by decide, ?_⟩; conv => whnf))
          · exact ⟨rfl, congrArg vB (by rw [key]; exact (show eqBA x s = true from h9).symm)⟩
          · exact ⟨rfl, congrArg vB (by rw [key]; exact (show eqBA x s = false from h9).symm)⟩
        · have h8 : k ≠ 0 := beq_eq_false_iff_ne.1 h8
          rw [decide_eq_false h8, Bool.false_and] at key
          exact ⟨rfl, congrArg vB (by rw [key])⟩
    · have h7 : l.length ≠ 1 := by have h7 : ¬ ((l.length : Nat) : Int) = 1 := beq_eq_false_iff_ne.1 h7; omega
      have hw : isWd s = false := by
        cases hh : isWd s with
        | false => rfl
        | true => exact absurd (by rw [(h1 hh).2]; rfl) h7
      rw [hw]
      exact ⟨rfl, rfl⟩
  · have h4 : e ≠ 0 := beq_eq_false_iff_ne.1 h4
    have hw : isWd s = false := by
      cases hh : isWd s with
      | false => rfl
      | true => exact absurd (h1 hh).1 h4
    rw [hw]
    exact ⟨rfl, rfl⟩
end Go.Proofs.YtnbgojbmlnohhaaGreatDoor

set_option linter.all false
set_option maxHeartbeats 4000000
set_option maxRecDepth 100000
namespace Go.Proofs.YtnbgojbmlnohhaaGreatDoor
open Go Go.RowKit Go.Sy Go.Proofs Go.ChangeShapes Go.WideShapes Go.ChangeAt

section
variable {H : Type} {enc : TypeId × Value → H}
theorem r5 : Reads enc Tryz.prog 5 (fun n : Int => .val (.int .u8 n)) (fun _ => 1) (fun n => IntKind.u8.min ≤ n ∧ n ≤ IntKind.u8.max) := reads_int Tryz.underlying5
theorem r3 : Reads enc Tryz.prog 3 (fun n : Int => .val (.int .i64 n)) (fun _ => 1) (fun n => IntKind.i64.min ≤ n ∧ n ≤ IntKind.i64.max) := reads_int Tryz.underlying3
theorem r9 : Reads enc Tryz.prog 9 (fun s : ByteArray => .val (.string s)) (fun s => s.size + 1) (fun s => s.size ≤ maxLen) := reads_string Tryz.underlying9
def rBs := reads_slice (sz := 1) (P := Tryz.prog) (t := 41) (by kernel_rfl) (by kernel_rfl) (r5 (H := H) (enc := enc))
def rRow := reads_struct (P := Tryz.prog) (t := 40) (l := [9, 3, 9]) Tryz.underlying40 rfl (by kernel_rfl) (by kernel_rfl) (readsF_cons (r9 (H := H) (enc := enc)) (readsF_cons (r3 (H := H) (enc := enc)) (readsF_cons (r9 (H := H) (enc := enc)) readsF_nil)))
def rName := reads_struct (P := Tryz.prog) (t := 43) (l := [41, 9]) Tryz.underlying43 rfl (by kernel_rfl) (by kernel_rfl) (readsF_cons (rBs (H := H) (enc := enc)) (readsF_cons (r9 (H := H) (enc := enc)) readsF_nil))
def rAct := reads_struct (P := Tryz.prog) (t := 45) (l := [3, 3, 3, 3, 9, 41]) Tryz.underlying45 rfl (by kernel_rfl) (by kernel_rfl)
  (readsF_cons (r3 (H := H) (enc := enc)) (readsF_cons (r3 (H := H) (enc := enc)) (readsF_cons (r3 (H := H) (enc := enc)) (readsF_cons (r3 (H := H) (enc := enc)) (readsF_cons (r9 (H := H) (enc := enc)) (readsF_cons (rBs (H := H) (enc := enc)) readsF_nil))))))
def rRows := reads_slice (sz := 3) (P := Tryz.prog) (t := 22) (by kernel_rfl) (by kernel_rfl) (rRow (H := H) (enc := enc))
def rNames := reads_slice (sz := 2) (P := Tryz.prog) (t := 23) (by kernel_rfl) (by kernel_rfl) (rName (H := H) (enc := enc))
def rActs := reads_slice (sz := 6) (P := Tryz.prog) (t := 24) (by kernel_rfl) (by kernel_rfl) (rAct (H := H) (enc := enc))
def rScr := reads_struct (P := Tryz.prog) (t := 26) (l := [22, 23, 24]) Tryz.underlying26 rfl (by kernel_rfl) (by kernel_rfl) (readsF_cons (rRows (H := H) (enc := enc)) (readsF_cons (rNames (H := H) (enc := enc)) (readsF_cons (rActs (H := H) (enc := enc)) readsF_nil)))
def aScr := (rScr (H := H) (enc := enc)).agg (by kernel_rfl)
def aStr2 := (reads_array (n := 2) (P := Tryz.prog) (t := 27) (by kernel_rfl) (by kernel_rfl) (r9 (H := H) (enc := enc))).agg (by kernel_rfl)
def aInt2 := (reads_array (n := 2) (P := Tryz.prog) (t := 28) (by kernel_rfl) (by kernel_rfl) (r3 (H := H) (enc := enc))).agg (by kernel_rfl)
end

def toR (y : ByteArray × Int × ByteArray × Unit) : Rw := ⟨y.1, y.2.1, y.2.2.1⟩
def toN (y : (Bool × List Int) × ByteArray × Unit) : Nm := ⟨y.1.1, y.1.2, y.2.1⟩
def toA (y : Int × Int × Int × Int × ByteArray × (Bool × List Int) × Unit) : Ac := ⟨y.1, y.2.1, y.2.2.1, y.2.2.2.1, y.2.2.2.2.1, y.2.2.2.2.2.1.1, y.2.2.2.2.2.1.2⟩
def toX (x : (Bool × List (ByteArray × Int × ByteArray × Unit)) × (Bool × List ((Bool × List Int) × ByteArray × Unit)) × (Bool × List (Int × Int × Int × Int × ByteArray × (Bool × List Int) × Unit)) × Unit) : Scr :=
  ⟨x.1.1, x.1.2.map toR, x.2.1.1, x.2.1.2.map toN, x.2.2.1.1, x.2.2.1.2.map toA⟩

theorem sumWt_mem {α : Type} {wt : α → Nat} : ∀ {l : List α} {y : α}, y ∈ l → wt y ≤ sumWt wt l
  | x :: l, y, h => by
    simp only [sumWt, List.map_cons, List.sum_cons]
    rcases List.mem_cons.1 h with rfl | h
    · omega
    · have := sumWt_mem (wt := wt) h
      simp only [sumWt] at this
      omega
theorem sumWt_len {α : Type} {wt : α → Nat} (hw : ∀ y, 1 ≤ wt y) : ∀ l : List α, l.length ≤ sumWt wt l
  | [] => Nat.zero_le _
  | x :: l => by
    have := sumWt_len hw l
    have := hw x
    simp only [sumWt, List.map_cons, List.sum_cons, List.length_cons] at *
    omega

theorem own3 : ownKnob Tryz.prog.godebug = none := by kernel_rfl
theorem gAscii : Tryz.prog.globalNamed "strings.asciiSpace" = some 0 := by kernel_rfl
theorem ascii_eq : (Rows.laid_strings_asciiSpace : DataW Unit) = Lib.tabData .u8 Lib.asciiSpaceTab := by kernel_rfl
theorem table {W : World} (h : laidMetH Tryz.prog Rows.namesPortsRow.laid W) : Lib.TabIs Tryz.prog W "strings.asciiSpace" .u8 Lib.asciiSpaceTab := by
  have h : laidMet Tryz.prog [("unicode.White_Space", Rows.laid_unicode_White_Space), ("strings.asciiSpace", Rows.laid_strings_asciiSpace)] W := h
  have h := laidMet.tail h
  rw [ascii_eq] at h
  exact Lib.tabIs_of_head (rest := []) gAscii (t := 159) (e := 5) (n := 256) (by kernel_rfl) (by kernel_rfl) (by kernel_rfl) (by kernel_rfl) (by kernel_rfl) h
theorem gl_of {W : World} (h : laidMetH Tryz.prog Rows.namesPortsRow.laid W) : Gl allImm W := by
  intro p hp
  have : p = tabFact 0 .u8 Lib.asciiSpaceTab := List.mem_singleton.1 hp
  subst this
  exact TabAt.of_tabIs gAscii rfl (table h)

theorem contract (H : Type) (enc : TypeId × Value → H) (W : World) (base : Nat) (args : Array Value) (ds gs : List (DataW H)) (before : List MemPlace)
    (hval : ∀ (j : Nat) t v, Tryz.f3.params[j]? = some t → args[j]? = some v → Value.okWide Tryz.prog W .any base t v)
    (hW : DataW.Whole enc Tryz.prog Tryz.f3.params.toList Rows.namesPortsSpec.vars false W args.toList ds gs before) (hL : laidMetH Tryz.prog Rows.namesPortsRow.laid W) (hk : Rows.uptoSmall H (ds ++ gs) = true) :
    Calls Tryz.prog 3 args W fun e W' => ∃ v, e = .returned v ∧ Rows.namesPortsSpec.post enc Tryz.prog Tryz.f3 false true false false W args v W' := by
  have hW' := hW
  obtain ⟨p, q, hA0, hV, rfl, hfz, hnd⟩ := hW
  have hA : DataW.TrodAll enc Tryz.prog W 0 (fun _ => true) true Tryz.f3.params.toList args.toList ds p := hA0
  rw [Tryz.params3] at hA hval
  obtain ⟨v0, vs0, d0, ds0, p0, q0, hargs, rfl, rfl, h0, hr0⟩ := trodAll_cons hA
  obtain ⟨v1, vs1, d1, ds1, p1, q1, hargs1, rfl, rfl, h1, hr1⟩ := trodAll_cons hr0
  obtain ⟨v2, vs2, d2, ds2, p2, q2, hargs2, rfl, rfl, h2, hr2⟩ := trodAll_cons hr1
  obtain ⟨rfl, rfl, rfl⟩ := trodAll_nil hr2
  obtain rfl : args = #[v0, v1, v2] := by cases args; simp_all
  obtain ⟨rfl, rfl⟩ := trodVars_none hV
  have hb : Rows.uptoBulkAll [d0, d1, d2] ≤ 1048576 := by
    have := of_decide_eq_true hk
    simpa using this
  simp only [Rows.uptoBulkAll] at hb
  obtain ⟨x, i0, w0, c0⟩ := aScr (H := H) (enc := enc) W v0 d0 p0 base (hval 0 26 v0 rfl rfl) h0
  obtain ⟨l, i1, w1, c1⟩ := aStr2 (H := H) (enc := enc) W v1 d1 p1 base (hval 1 27 v1 rfl rfl) h1
  obtain ⟨n, i2, w2, c2⟩ := aInt2 (H := H) (enc := enc) W v2 d2 p2 base (hval 2 28 v2 rfl rfl) h2
  have w0' : 1 + ((1 + sumWt (fun y : ByteArray × Int × ByteArray × Unit => 1 + ((y.1.size + 1) + (1 + ((y.2.2.1.size + 1) + 0)))) x.1.2) +
    ((1 + sumWt (fun y : (Bool × List Int) × ByteArray × Unit => 1 + ((1 + sumWt (fun _ : Int => 1) y.1.2) + ((y.2.1.size + 1) + 0))) x.2.1.2) +
    ((1 + sumWt (fun y : Int × Int × Int × Int × ByteArray × (Bool × List Int) × Unit => 1 + (1 + (1 + (1 + (1 + ((y.2.2.2.2.1.size + 1) + ((1 + sumWt (fun _ : Int => 1) y.2.2.2.2.2.1.2) + 0))))))) x.2.2.1.2) + 0))) ≤ Rows.uptoBulk d0 := w0
  have s1 : sumWt (fun y : ByteArray × Int × ByteArray × Unit => 1 + ((y.1.size + 1) + (1 + ((y.2.2.1.size + 1) + 0)))) x.1.2 ≤ 1048576 := by omega
  have s2 : sumWt (fun y : (Bool × List Int) × ByteArray × Unit => 1 + ((1 + sumWt (fun _ : Int => 1) y.1.2) + ((y.2.1.size + 1) + 0))) x.2.1.2 ≤ 1048576 := by omega
  have s3 : sumWt (fun y : Int × Int × Int × Int × ByteArray × (Bool × List Int) × Unit => 1 + (1 + (1 + (1 + (1 + ((y.2.2.2.2.1.size + 1) + ((1 + sumWt (fun _ : Int => 1) y.2.2.2.2.2.1.2) + 0))))))) x.2.2.1.2 ≤ 1048576 := by omega
  have l1 := sumWt_len (wt := fun y : ByteArray × Int × ByteArray × Unit => 1 + ((y.1.size + 1) + (1 + ((y.2.2.1.size + 1) + 0)))) (fun y => by omega) x.1.2
  have l2 := sumWt_len (wt := fun y : (Bool × List Int) × ByteArray × Unit => 1 + ((1 + sumWt (fun _ : Int => 1) y.1.2) + ((y.2.1.size + 1) + 0))) (fun y => by omega) x.2.1.2
  have l3 := sumWt_len (wt := fun y : Int × Int × Int × Int × ByteArray × (Bool × List Int) × Unit => 1 + (1 + (1 + (1 + (1 + ((y.2.2.2.2.1.size + 1) + ((1 + sumWt (fun _ : Int => 1) y.2.2.2.2.2.1.2) + 0))))))) (fun y => by omega) x.2.2.1.2
  have hg : Good (toX x) := by
    refine good_of (toX x) ?_ ?_ ?_ ?_ ?_ ?_ ?_
    · show ((x.1.2.map toR).length : Int) ≤ 2000000
      rw [List.length_map]; omega
    · show ((x.2.1.2.map toN).length : Int) ≤ 2000000
      rw [List.length_map]; omega
    · show ((x.2.2.1.2.map toA).length : Int) ≤ 2000000
      rw [List.length_map]; omega
    · intro m hm
      obtain ⟨y, hy, rfl⟩ := List.mem_map.1 hm
      have h3 := sumWt_mem (wt := fun y : (Bool × List Int) × ByteArray × Unit => 1 + ((1 + sumWt (fun _ : Int => 1) y.1.2) + ((y.2.1.size + 1) + 0))) hy
      have h4 := sumWt_len (wt := fun _ : Int => 1) (fun _ => Nat.le_refl _) y.1.2
      show (y.1.2.length : Int) ≤ 2000000
      omega
    · intro m hm
      obtain ⟨y, hy, rfl⟩ := List.mem_map.1 hm
      have h3 := sumWt_mem (wt := fun y : (Bool × List Int) × ByteArray × Unit => 1 + ((1 + sumWt (fun _ : Int => 1) y.1.2) + ((y.2.1.size + 1) + 0))) hy
      show (y.2.1.size : Int) ≤ 2000000
      omega
    · intro m hm
      obtain ⟨y, hy, rfl⟩ := List.mem_map.1 hm
      have h3 := sumWt_mem (wt := fun y : ByteArray × Int × ByteArray × Unit => 1 + ((y.1.size + 1) + (1 + ((y.2.2.1.size + 1) + 0)))) hy
      exact ⟨by show (y.1.size : Int) ≤ 2000000; omega, by show (y.2.2.1.size : Int) ≤ 2000000; omega⟩
    · intro m hm
      obtain ⟨y, hy, rfl⟩ := List.mem_map.1 hm
      have h3 := sumWt_mem (wt := fun y : Int × Int × Int × Int × ByteArray × (Bool × List Int) × Unit => 1 + (1 + (1 + (1 + (1 + ((y.2.2.2.2.1.size + 1) + ((1 + sumWt (fun _ : Int => 1) y.2.2.2.2.2.1.2) + 0))))))) hy
      show (y.2.2.2.2.1.size : Int) ≤ 2000000
      omega
  have cX : RP allImm W (pvX (toX x)) v0 := by
    have e1 : (x.1.2.map toR).map pvR = x.1.2.map fun y => PV.agg (PV.cells (.val (.string y.1)) ++ (PV.cells (.val (.int .i64 y.2.1)) ++ (PV.cells (.val (.string y.2.2.1)) ++ []))) := by rw [List.map_map]; rfl
    have e2 : (x.2.1.2.map toN).map pvN = x.2.1.2.map fun y => PV.agg (PV.cells (.list 1 y.1.1 (y.1.2.map fun n : Int => .val (.int .u8 n))) ++ (PV.cells (.val (.string y.2.1)) ++ [])) := by rw [List.map_map]; rfl
    have e3 : (x.2.2.1.2.map toA).map pvA = x.2.2.1.2.map fun y => PV.agg (PV.cells (.val (.int .i64 y.1)) ++ (PV.cells (.val (.int .i64 y.2.1)) ++ (PV.cells (.val (.int .i64 y.2.2.1)) ++ (PV.cells (.val (.int .i64 y.2.2.2.1)) ++ (PV.cells (.val (.string y.2.2.2.2.1)) ++ (PV.cells (.list 1 y.2.2.2.2.2.1.1 (y.2.2.2.2.2.1.2.map fun n : Int => .val (.int .u8 n))) ++ [])))))) := by rw [List.map_map]; rfl
    unfold pvX toX
    simp only
    rw [e1, e2, e3]
    exact c0
  obtain ⟨hl, _⟩ := i1
  obtain ⟨hn, _⟩ := i2
  match l, n, hl, hn, c1, c2 with
  | [t, how], [a, c], _, _, c1, c2 =>
    have ok := NamesPorts_law isW39 isW43 sort46 (toX x) hg t how a c
    exact law_post (f := 3) (fn := Tryz.f3) (s := Rows.namesPortsSpec) (tb := 4) (svs := [.pure (pvX (toX x)), .pure (.agg [.val (.string t), .val (.string how)]), .pure (.agg [.val (.int .i64 a), .val (.int .i64 c)])]) (by kernel_rfl) (by kernel_rfl) rfl (by kernel_rfl) Tryz.underlying4 rfl hW' (gl_of hL) ⟨v0, _, rfl, cX, v1, _, rfl, c1, v2, _, rfl, c2, rfl⟩ (ok.mono fun r st' h => ⟨h.2, h.1⟩)

/-- A world for the witness: the settled one with two blocks more (unicode.White_Space's ranges; its RangeTable), the two variables holding what their initialisers lay. -/
noncomputable def laidWorld (os : Os) : World :=
  let N := (World.settled Tryz.prog os).heap.size
  let w0 := World.holding Tryz.prog os ⟨#[.cells (Lib.whiteT.map fun (z : Nat) => Value.int .u16 (z : Int)).toArray (YtnbgojbmlnohhaaGreatDoor.lays157_ren.t 198), .cells #[.slice (some ⟨N, 0, none⟩) 7 7, .slice none 0 0, .int .i64 2] (YtnbgojbmlnohhaaGreatDoor.lays157_ren.t 196)], #[], []⟩
  let put (h : Array Obj) (g : Nat) (cs : Array Value) : Array Obj := h.modify g fun
    | .cells _ t frozen => .cells cs t frozen
    | o => o
  let h1 := put w0.heap 0 (Lib.asciiSpaceTab.map fun z => Value.int .u8 z).toArray
  let h2 := put h1 1 #[.pointer (some ⟨N + 1, 0, none⟩)]
  { w0 with heap := h2 }
abbrev zArgs : Array Value := #[.agg #[.slice none 0 0, .slice none 0 0, .slice none 0 0], .agg #[.string ByteArray.empty, .string ByteArray.empty], .agg #[.int .i64 0, .int .i64 0]]
theorem laid_met (os : Os) : laidMet Tryz.prog Rows.namesPortsRow.laid ((laidWorld os).forCall (fun _ _ => 0) ⟨#[], zArgs, []⟩).memory :=
  laidMet_of_run' 8 (by kernel_rfl) (by kernel_rfl)
theorem reads (os : Os) {H : Type} (enc : TypeId × Value → H) : ∃ places, DataW.whole enc Tryz.prog ((laidWorld os).forCall (fun _ _ => 0) ⟨#[], zArgs, []⟩).memory Tryz.f3.params.toList Rows.namesPortsSpec.vars false zArgs.toList 8 = some ([.agg [.nil, .nil, .nil], .agg [.lit (.string []), .lit (.string [])], .agg [.lit (.int .i64 0), .lit (.int .i64 0)]], [], places) :=
  ⟨[], by kernel_rfl⟩

set_option maxRecDepth 100000 in
theorem liftedUpto (os : Os) (started : os.Started) (H : Type) (enc : TypeId × Value → H) (F : Stop.Interp) :
    ReturnsInHanded {} Tryz.checked os 3 .any ((Rows.OpenSpec.upto Rows.namesPortsSpec).preRow enc Tryz.prog Tryz.f3 Rows.namesPortsUptoRow.domain false Rows.namesPortsUptoRow.laid) (((Rows.OpenSpec.upto Rows.namesPortsSpec).at F).post enc Tryz.prog Tryz.f3 false true false false) := by
  obtain ⟨places, hx⟩ := reads os enc
  refine returnsInHanded_of_row (C := Tryz.checked) (s := Rows.OpenSpec.upto Rows.namesPortsSpec) own3 started (by kernel_rfl) Tryz.func3
    (witness_row_atRef (enc := enc) (C := Tryz.checked) false (laidWorld os) zArgs rfl (by kernel_rfl) (by kernel_rfl) (by kernel_rfl)
      (OpenSpec.preRow_of_cond 8 hx (by kernel_rfl) (fun k hk => by cases hk; kernel_rfl) (by kernel_rfl) (laid_met os))) ?_
  intro W base args ds gs before hval hW _ hcond _ hL _ _
  exact contract H enc W base args ds gs before hval hW hL (hcond _ rfl)

theorem saidUpto : Rows.NamesPortsUptoSaid :=
  OpenClaim.holds_of_cond 3 Tryz.f3 rfl rfl rfl rfl rfl rfl rfl ⟨rfl, rfl, rfl, rfl, rfl⟩ rfl rfl rfl rfl rfl (by kernel_rfl) Tryz.func3 (by kernel_rfl)
    (of_decide_eq_true (by kernel_rfl)) (by unfold Func.isWrapper; first | (rw [if_pos (by decide +kernel)]; kernel_rfl) | (rw [if_neg (by decide +kernel)]; exact ⟨rfl, rfl⟩))
    (fun os started H enc _ F => by rw [OpenClaim.pre_eq_preRow]; exact liftedUpto os started H enc F)

/-- No parameter wants a stand-in; the program's own looks are off: what the card asks. -/
theorem plain (f : FuncId) (fn : Func) (hf : Tryz.pinned.checked.prog.funcNamed Rows.namesPortsRow.func = some f) (hfn : Tryz.pinned.checked.prog.funcs[f]? = some fn) :
    false = Tryz.pinned.checked.prog.looks [] ∧ ∀ (j : Nat) t, fn.params[j]? = some t → Tryz.pinned.checked.prog.wantsStandIn t = false := by
  obtain rfl : f = 3 := Option.some.inj ((show Tryz.prog.funcNamed Rows.namesPortsRow.func = some 3 by kernel_rfl).symm.trans hf) |>.symm
  obtain rfl : fn = Tryz.f3 := (Option.some.inj (Tryz.func3.symm.trans hfn)).symm
  refine ⟨by kernel_rfl, fun j t ht => ?_⟩
  have hall : (Tryz.f3.params.toList.all fun t => Tryz.prog.wantsStandIn t == false) = true := by kernel_rfl
  have := List.all_eq_true.1 hall t (Array.mem_toList_iff.2 (Array.mem_of_getElem? ht))
  have h2 : Tryz.prog.wantsStandIn t = false := by simpa using this
  exact h2

theorem NamesPorts_holds : Rows.NamesPortsUptoCardSaid :=
  Claim7.holds_tied_plain_at .later [] _ _ _ _ saidUpto (fun _ h => by cases h) (by kernel_rfl) (fun _ h => by cases h) namesPortsUpto_row_tie rfl ⟨rfl, rfl⟩ (by kernel_rfl) rfl plain (by kernel_rfl)
#print axioms NamesPorts_holds
end Go.Proofs.YtnbgojbmlnohhaaGreatDoor
