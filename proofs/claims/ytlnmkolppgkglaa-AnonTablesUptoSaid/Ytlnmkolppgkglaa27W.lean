/- law27: the sort of slices of bytes. -/
import Derived.Test.Ytlnmkolppgkglaa27V
set_option linter.all false
set_option maxHeartbeats 4000000
set_option maxRecDepth 100000
namespace Go.Proofs.Ytlnmkolppgkglaa
open Go Go.RowKit Go.Sy Go.Proofs Go.Sort

theorem cmpI_neg (a b : List Int) : cmpI a b < 0 ↔ Lib.bytesOf a < Lib.bytesOf b := by
  unfold cmpI
  generalize Lib.bytesOf a = x
  generalize Lib.bytesOf b = y
  induction x generalizing y with
  | nil => cases y <;> simp [Lib.compareBytes]
  | cons u x ih =>
    cases y with
    | nil => simp [Lib.compareBytes]
    | cons v y =>
      unfold Lib.compareBytes
      rw [List.cons_lt_cons_iff]
      by_cases h1 : u < v
      · simp [h1]
      · by_cases h2 : v < u
        · have : u ≠ v := fun e => by subst e; exact h1 h2
          simp [h1, h2, this]
        · have : u = v := UInt8.le_antisymm (UInt8.not_lt.1 h2) (UInt8.not_lt.1 h1)
          simp [h1, h2, this, ih]

theorem ltB_eq (x y : BV) : ltB x y = ltStr (Lib.bytesOf x.2) (Lib.bytesOf y.2) := by
  unfold ltB ltStr cmpB
  exact decide_eq_decide.2 (cmpI_neg _ _)

theorem swoB : SWO ltB where
  irrefl x := by rw [ltB_eq]; exact swo_ltStr.irrefl _
  trans x y z h1 h2 := by rw [ltB_eq] at *; exact swo_ltStr.trans _ _ _ h1 h2
  ntrans x y z h1 h2 := by rw [ltB_eq] at *; exact swo_ltStr.ntrans _ _ _ h1 h2

/-- What the sort of a part does. -/
def Srt (a b : Nat) (d e : Array BV) : Prop := PermIn a b d e ∧ SortedIn ltB a b e

theorem insertion_s (nl : Bool) (d : Array BV) (a b : Nat) (hab : a ≤ b) (hb : b ≤ d.size) (hd : d.size < 2 ^ 60) :
    CallOk Try.prog 63 [.vref 0 0, vI .i64 a, vI .i64 b, cmpV] [vecB nl d] fun r st' => ∃ e, r = .tup [] ∧ st' = [vecB nl e] ∧ Srt a b d e :=
  (insertion_ok nl d a b hab hb (by omega)).mono fun r st' ⟨h1, h2⟩ => ⟨_, h1, h2, insertionSort_holds swoB d a b hab hb⟩
theorem heap_s (nl : Bool) (d : Array BV) (a b : Nat) (hab : a < b) (hb : b ≤ d.size) (hd : d.size < 2 ^ 60) :
    CallOk Try.prog 64 [.vref 0 0, vI .i64 a, vI .i64 b, cmpV] [vecB nl d] fun r st' => ∃ e, r = .tup [] ∧ st' = [vecB nl e] ∧ Srt a b d e :=
  (heap_ok nl d a b hab hb hd).mono fun r st' ⟨h1, h2⟩ => ⟨_, h1, h2, heapSort_holds swoB d a b (by omega) hb⟩
theorem reverse_s (nl : Bool) (d : Array BV) (a b : Nat) (hab : a < b) (hb : b ≤ d.size) (hd : d.size < 2 ^ 60) :
    CallOk Try.prog 67 [.vref 0 0, vI .i64 a, vI .i64 b, cmpV] [vecB nl d] fun r st' => ∃ e, r = .tup [] ∧ st' = [vecB nl e] ∧ PermIn a b d e :=
  (reverse_ok nl d a b hab hb (by omega)).mono fun r st' ⟨h1, h2⟩ => ⟨_, h1, h2, reverseRange_holds d a b (by omega) hb⟩
theorem partial_s (nl : Bool) (d : Array BV) (a b : Nat) (hab : a < b) (hb : b ≤ d.size) (hd : d.size < 2 ^ 60) (hB : Below ltB a b d) :
    CallOk Try.prog 68 [.vref 0 0, vI .i64 a, vI .i64 b, cmpV] [vecB nl d] fun r st' => ∃ e c, r = vB c ∧ st' = [vecB nl e] ∧ PermIn a b d e ∧ (c = true → SortedIn ltB a b e) :=
  (partial_ok nl d a b hab hb hd).mono fun r st' ⟨h1, h2⟩ => ⟨_, _, h1, h2, partialInsertionSort_holds swoB d a b hab hb hB⟩
theorem partEq_s (nl : Bool) (d : Array BV) (a b v : Nat) (hab : a ≤ v) (hv : v < b) (hb : b ≤ d.size) (hd : d.size < 2 ^ 60) :
    CallOk Try.prog 69 [.vref 0 0, vI .i64 a, vI .i64 b, vI .i64 v, cmpV] [vecB nl d] fun r st' => ∃ m e, r = vI .i64 (m : Nat) ∧ st' = [vecB nl e] ∧ partitionEqual ltB d a b v = (m, e) :=
  (partEq_ok nl d a b v hab hv hb hd).mono fun r st' ⟨h1, h2⟩ => ⟨_, _, h1, h2, rfl⟩
theorem part_s (nl : Bool) (d : Array BV) (a b v : Nat) (hab : a ≤ v) (hv : v < b) (hb : b ≤ d.size) (hd : d.size < 2 ^ 60) :
    CallOk Try.prog 70 [.vref 0 0, vI .i64 a, vI .i64 b, vI .i64 v, cmpV] [vecB nl d] fun r st' => ∃ m ap e, r = .tup [vI .i64 (m : Nat), vB ap] ∧ st' = [vecB nl e] ∧ Go.Sort.partition ltB d a b v = (m, ap, e) :=
  (part_ok nl d a b v hab hv hb hd).mono fun r st' ⟨h1, h2⟩ => ⟨_, _, _, h1, h2, rfl⟩

set_option maxHeartbeats 4000000 in
theorem pdq_ok (nl : Bool) : ∀ (n : Nat) (d : Array BV) (a b : Nat) (l : Int), b - a < n → a ≤ b → b ≤ d.size → d.size < 2 ^ 60 → Below ltB a b d →
    CallOk Try.prog 56 [.vref 0 0, vI .i64 a, vI .i64 b, vI .i64 l, cmpV] [vecB nl d] fun r st' => ∃ e, r = .tup [] ∧ st' = [vecB nl e] ∧ Srt a b d e := by
  intro n
  induction n with
  | zero => intro d a b l h; exact absurd h (Nat.not_lt_zero _)
  | succ n ih =>
    intro d a b l hn hab hb hd hB
    refine callOk_of false 1 Try.func56 rfl rfl (Nat.le_refl _) ?_
    conv => whnf
    repeat (first | (refine rest_vc ?_; conv => whnf) | (refine ⟨by decide, ?_⟩; conv => whnf))
    refine awp_loop2 (n := 148) (α := (Nat × Nat) × Int × Bool × Bool) (β := Array BV) (fun y e => a ≤ y.1.1 ∧ y.1.2 ≤ b ∧ y.1.1 ≤ y.1.2 ∧ e.size = d.size ∧ Below ltB y.1.1 y.1.2 e ∧ ∀ R, PermIn y.1.1 y.1.2 e R → SortedIn ltB y.1.1 y.1.2 R → PermIn a b d R ∧ SortedIn ltB a b R)
      (fun y e => [(0, .vref 0 0), (1, vI .i64 y.1.1), (2, vI .i64 y.1.2), (3, vI .i64 y.2.1), (4, cmpV), (10, vB y.2.2.1), (11, vB y.2.2.2)]) (fun _ e => [vecB nl e]) (fun y _ => y.1.2 - y.1.1) ((a, b), l, true, true) d (fun _ => 0)
      ⟨Nat.le_refl _, Nat.le_refl _, hab, rfl, hB, fun R h1 h2 => ⟨h1, h2⟩⟩ rfl ⟨rfl, rfl, rfl, rfl, rfl, rfl, rfl, trivial⟩ rfl (fun _ _ => rfl) (fun _ _ => ⟨Nat.le_refl _, rfl, rfl⟩) ?_
    rintro ⟨⟨p, q⟩, l', wb, wp⟩ e ⟨h1, h2, h3, h4, h5, h6⟩
    simp only at h1 h2 h3 h4 h5 h6
    have eqp := sub64 (i := q) (j := p) h3 (by omega)
    conv => whnf
    repeat (first | (refine rest_vc ?_; conv => whnf) | (refine ⟨by decide, ?_⟩; conv => whnf))
    split <;> rename_i c <;> (conv => whnf) <;> repeat (first | (refine rest_vc ?_; conv => whnf) | (refine ⟨by decide, ?_⟩; conv => whnf))
    · refine CallIn.o [0] (insertion_s nl e p q h3 (by omega) (by omega)) (k := ?_)
      rintro r st' ⟨e', rfl, rfl, k1, k2⟩
      conv => whnf
      repeat (first | (refine rest_vc ?_; conv => whnf) | (refine ⟨by decide, ?_⟩; conv => whnf))
      exact ⟨e', rfl, rfl, h6 e' k1 k2⟩
    have c := of_decide_eq_false c
    rw [eqp] at c
    split <;> rename_i c2 <;> (conv => whnf) <;> repeat (refine ⟨by decide, ?_⟩; conv => whnf)
    · refine rest_vc ?_
      conv => whnf
      repeat (first | (refine rest_vc ?_; conv => whnf) | (refine ⟨by decide, ?_⟩; conv => whnf))
      refine CallIn.o [0] (heap_s nl e p q (by omega) (by omega) (by omega)) (k := ?_)
      rintro r st' ⟨e', rfl, rfl, k1, k2⟩
      conv => whnf
      repeat (first | (refine rest_vc ?_; conv => whnf) | (refine ⟨by decide, ?_⟩; conv => whnf))
      exact ⟨e', rfl, rfl, h6 e' k1 k2⟩
    clear c2
    refine rest_vc ?_
    conv => whnf
    repeat (refine ⟨by decide, ?_⟩; conv => whnf)
    refine rest_join (α := Int × Array BV) 148 (fun y => PermIn p q e y.2) (fun y => [(0, .vref 0 0), (1, vI .i64 p), (2, vI .i64 q), (3, vI .i64 y.1), (4, cmpV), (10, vB wb), (11, vB wp), (12, vI .i64 (q - p : Nat))]) (fun y => [vecB nl y.2]) (fun _ => ⟨Nat.le_refl _, rfl, rfl⟩) ?_ ?_
    · cases wb
      · conv => whnf
        repeat (first | (refine rest_vc ?_; conv => whnf) | (refine ⟨by decide, ?_⟩; conv => whnf))
        refine CallIn.o [0] (break_ok nl e p q (by omega) (by omega) (by omega)) (k := ?_)
        rintro r st' ⟨e', rfl, rfl, k1⟩
        conv => whnf
        repeat (first | (refine rest_vc ?_; conv => whnf) | (refine ⟨by decide, ?_⟩; conv => whnf))
        exact ⟨(_, e'), fun _ => 0, k1, rfl, ⟨rfl, rfl, rfl, rfl, rfl, rfl, rfl, congrArg (vI .i64) eqp, trivial⟩, rfl, fun _ _ => rfl⟩
      · conv => whnf
        repeat (first | (refine rest_vc ?_; conv => whnf) | (refine ⟨by decide, ?_⟩; conv => whnf))
        exact ⟨(l', e), fun _ => 0, permIn_refl _ _ _, rfl, ⟨rfl, rfl, rfl, rfl, rfl, rfl, rfl, congrArg (vI .i64) eqp, trivial⟩, rfl, fun _ _ => rfl⟩
    rintro ⟨l1, e1⟩ k1
    have s1 : e1.size = d.size := k1.1.trans h4
    have B1 : Below ltB p q e1 := h5.perm (by omega) k1
    refine rest_vc ?_
    conv => whnf
    repeat (refine ⟨by decide, ?_⟩; conv => whnf)
    refine CallIn.o [0] (pivot_ok nl e1 p q (by omega) (by omega) (by omega)) (k := ?_)
    rintro r st' ⟨rfl, x, hn0, rfl, x1, x2⟩
    conv => whnf
    repeat (refine ⟨by decide, ?_⟩; conv => whnf)
    refine rest_join (α := Nat × Int × Array BV) 148 (fun y => PermIn p q e1 y.2.2 ∧ p ≤ y.1 ∧ y.1 < q) (fun y => [(0, .vref 0 0), (1, vI .i64 p), (2, vI .i64 q), (3, vI .i64 l1), (4, cmpV), (10, vB wb), (11, vB wp), (12, vI .i64 (q - p : Nat)), (13, vI .i64 y.1), (14, vI .i64 y.2.1)]) (fun y => [vecB nl y.2.2]) (fun _ => ⟨Nat.le_refl _, rfl, rfl⟩) ?_ ?_
    · conv => whnf
      repeat (first | (refine rest_vc ?_; conv => whnf) | (refine ⟨by decide, ?_⟩; conv => whnf))
      split <;> rename_i c2 <;> (conv => whnf) <;> repeat (first | (refine rest_vc ?_; conv => whnf) | (refine ⟨by decide, ?_⟩; conv => whnf))
      · refine CallIn.o [0] (reverse_s nl e1 p q (by omega) (by omega) (by omega)) (k := ?_)
        rintro r st' ⟨e2, rfl, rfl, k2⟩
        conv => whnf
        repeat (first | (refine rest_vc ?_; conv => whnf) | (refine ⟨by decide, ?_⟩; conv => whnf))
        refine ⟨((q - 1) - (x - p), _, e2), fun _ => 0, ⟨k2, by show p ≤ _; omega, by show _ < q; omega⟩, rfl, ⟨rfl, rfl, rfl, rfl, rfl, rfl, rfl, rfl, congrArg (vI .i64) ?_, rfl, trivial⟩, rfl, fun _ _ => rfl⟩
        show IntKind.i64.wrap _ = _
        rw [pred64 (j := q) (by omega) (by omega), sub64 (i := x) (j := p) x1 (by omega), sub64 (by omega) (by omega)]
      · exact ⟨(x, _, e1), fun _ => 0, ⟨permIn_refl _ _ _, x1, x2⟩, rfl, ⟨rfl, rfl, rfl, rfl, rfl, rfl, rfl, rfl, rfl, rfl, trivial⟩, rfl, fun _ _ => rfl⟩
    clear x1 x2 x
    rintro ⟨x, hn1, e2⟩ ⟨k2, x1, x2⟩
    simp only at k2 x1 x2
    have s2 : e2.size = d.size := k2.1.trans s1
    have B2 : Below ltB p q e2 := B1.perm (by omega) k2
    refine rest_join (α := Array BV) 148 (fun e3 => PermIn p q e2 e3) (fun _ => [(0, .vref 0 0), (1, vI .i64 p), (2, vI .i64 q), (3, vI .i64 l1), (4, cmpV), (10, vB wb), (11, vB wp), (12, vI .i64 (q - p : Nat)), (13, vI .i64 x)]) (fun e3 => [vecB nl e3]) (fun _ => ⟨Nat.le_refl _, rfl, rfl⟩) ?_ ?_
    · have skip : ∃ (x_1 : Array BV), PermIn p q e2 x_1 := ⟨e2, permIn_refl _ _ _⟩
      cases wb
      · conv => whnf
        repeat (first | (refine rest_vc ?_; conv => whnf) | (refine ⟨by decide, ?_⟩; conv => whnf))
        exact ⟨e2, fun _ => 0, permIn_refl _ _ _, rfl, ⟨rfl, rfl, rfl, rfl, rfl, rfl, rfl, rfl, rfl, trivial⟩, rfl, fun _ _ => rfl⟩
      · cases wp
        · conv => whnf
          repeat (first | (refine rest_vc ?_; conv => whnf) | (refine ⟨by decide, ?_⟩; conv => whnf))
          exact ⟨e2, fun _ => 0, permIn_refl _ _ _, rfl, ⟨rfl, rfl, rfl, rfl, rfl, rfl, rfl, rfl, rfl, trivial⟩, rfl, fun _ _ => rfl⟩
        · conv => whnf
          repeat (first | (refine rest_vc ?_; conv => whnf) | (refine ⟨by decide, ?_⟩; conv => whnf))
          split <;> rename_i c3 <;> (conv => whnf) <;> repeat (first | (refine rest_vc ?_; conv => whnf) | (refine ⟨by decide, ?_⟩; conv => whnf))
          · refine CallIn.o [0] (partial_s nl e2 p q (by omega) (by omega) (by omega) B2) (k := ?_)
            rintro r st' ⟨e3, t, rfl, rfl, k3, k4⟩
            cases t
            · conv => whnf
              repeat (first | (refine rest_vc ?_; conv => whnf) | (refine ⟨by decide, ?_⟩; conv => whnf))
              exact ⟨e3, fun _ => 0, k3, rfl, ⟨rfl, rfl, rfl, rfl, rfl, rfl, rfl, rfl, rfl, trivial⟩, rfl, fun _ _ => rfl⟩
            · conv => whnf
              repeat (first | (refine rest_vc ?_; conv => whnf) | (refine ⟨by decide, ?_⟩; conv => whnf))
              exact ⟨e3, rfl, rfl, h6 e3 (permIn_trans _ _ _ _ _ (permIn_trans _ _ _ _ _ k1 k2) k3) (k4 rfl)⟩
          · exact ⟨e2, fun _ => 0, permIn_refl _ _ _, rfl, ⟨rfl, rfl, rfl, rfl, rfl, rfl, rfl, rfl, rfl, trivial⟩, rfl, fun _ _ => rfl⟩
    rintro e3 k3
    have s3 : e3.size = d.size := k3.1.trans s2
    have B3 : Below ltB p q e3 := B2.perm (by omega) k3
    have P3 : PermIn p q e e3 := permIn_trans _ _ _ _ _ (permIn_trans _ _ _ _ _ k1 k2) k3
    have ep := pred64 (j := p)
    refine rest_join (α := Unit) 148 (fun _ => True) (fun _ => [(0, .vref 0 0), (1, vI .i64 p), (2, vI .i64 q), (3, vI .i64 l1), (4, cmpV), (10, vB wb), (11, vB wp), (12, vI .i64 (q - p : Nat)), (13, vI .i64 x)]) (fun _ => [vecB nl e3]) (fun _ => ⟨Nat.le_refl _, rfl, rfl⟩) ?_ ?_
    · have no : ∀ (_ : True), True := fun h => h
      conv => whnf
      refine hand_draw [] (fun _ r => r = vI .i64 (cmpB e3[p - 1]! e3[x]!)) rfl (by kernel_rfl) rfl ?_
      conv => whnf
      repeat (first | (refine rest_vc ?_; conv => whnf) | (refine ⟨by decide, ?_⟩; conv => whnf))
      split <;> rename_i c3 <;> (conv => whnf) <;> repeat (first | (refine rest_vc ?_; conv => whnf) | (refine ⟨by decide, ?_⟩; conv => whnf))
      · have c3 := of_decide_eq_true c3
        have ep := ep (by omega) (by omega)
        refine ⟨by simp only [encs_len, List.length_set, ep] <;> omega, ?_⟩
        conv => whnf
        repeat (first | (refine rest_vc ?_; conv => whnf) | (refine ⟨by decide, ?_⟩; conv => whnf))
        refine ⟨by simp only [encs_len, List.length_set, ep] <;> omega, fun p hp => ?_⟩
        simp only [ep, Int.toNat_natCast] at hp
        obtain ⟨rfl, _⟩ := encs_get hp
        clear hp
        conv => whnf
        repeat (first | (refine rest_vc ?_; conv => whnf) | (refine ⟨by decide, ?_⟩; conv => whnf))
        refine ⟨by simp only [encs_len, List.length_set] <;> omega, ?_⟩
        conv => whnf
        repeat (first | (refine rest_vc ?_; conv => whnf) | (refine ⟨by decide, ?_⟩; conv => whnf))
        refine ⟨by simp only [encs_len, List.length_set] <;> omega, fun p hp => ?_⟩
        simp only [Int.toNat_natCast] at hp
        obtain ⟨rfl, _⟩ := encs_get hp
        clear hp
        conv => whnf
        repeat (first | (refine rest_vc ?_; conv => whnf) | (refine ⟨by decide, ?_⟩; conv => whnf))
        refine CallIn.dto (compare_ok _ _ _ _) (k := ?_)
        conv => whnf
        repeat (first | (refine rest_vc ?_; conv => whnf) | (refine ⟨by decide, ?_⟩; conv => whnf))
        obtain ⟨t, ht⟩ : ∃ t, t = decide (cmpI e3[p - 1]!.2 e3[x]!.2 < 0) := ⟨_, rfl⟩
        rw [← ht]
        have hlt := lt_cmp ht
        cases t
        · conv => whnf
          repeat (first | (refine rest_vc ?_; conv => whnf) | (refine ⟨by decide, ?_⟩; conv => whnf))
          refine CallIn.o [0] (partEq_s nl e3 p q x x1 x2 (by omega) (by omega)) (k := ?_)
          rintro r st' ⟨m, e4, rfl, rfl, hx⟩
          obtain ⟨g1, g2, g3, g4, g5⟩ := round_eq swoB (partitionEqual_holds _) (by omega) x1 x2 (by omega) B3 hlt hx
          conv => whnf
          repeat (first | (refine rest_vc ?_; conv => whnf) | (refine ⟨by decide, ?_⟩; conv => whnf))
          exact ⟨((m, q), l1, wb, wp), e4, fun _ => 0, ⟨by show a ≤ m; omega, h2, g2, by show e4.size = _; omega, g4, fun R r1 r2 => h6 R (permIn_trans _ _ _ _ _ P3 (g5 R r1 r2).1) (g5 R r1 r2).2⟩, by show q - m < q - p; omega, rfl, ⟨rfl, rfl, rfl, rfl, rfl, rfl, rfl, trivial⟩, rfl, fun _ _ => rfl⟩
        · conv => whnf
          repeat (first | (refine rest_vc ?_; conv => whnf) | (refine ⟨by decide, ?_⟩; conv => whnf))
          exact ⟨(), fun _ => 0, trivial, rfl, ⟨rfl, rfl, rfl, rfl, rfl, rfl, rfl, rfl, rfl, trivial⟩, rfl, fun _ _ => rfl⟩
      · exact ⟨(), fun _ => 0, trivial, rfl, ⟨rfl, rfl, rfl, rfl, rfl, rfl, rfl, rfl, rfl, trivial⟩, rfl, fun _ _ => rfl⟩
    rintro _ _
    refine rest_vc ?_
    conv => whnf
    repeat (first | (refine rest_vc ?_; conv => whnf) | (refine ⟨by decide, ?_⟩; conv => whnf))
    refine CallIn.o [0] (part_s nl e3 p q x x1 x2 (by omega) (by omega)) (k := ?_)
    rintro r st' ⟨m, ap, e4, rfl, rfl, hx⟩
    obtain ⟨g1, g2, g3, g4, g5, g6, g7⟩ := round_part swoB (partition_holds _) x1 x2 (by omega) B3 hx
    have hr := ih e4 (m + 1) q l1 (by omega) (by omega) (by omega) (by omega) g5
    rw [← succ64 (j := m) (by omega)] at hr
    conv => whnf
    repeat (first | (refine rest_vc ?_; conv => whnf) | (refine ⟨by decide, ?_⟩; conv => whnf))
    split <;> rename_i c4 <;> (conv => whnf) <;> repeat (first | (refine rest_vc ?_; conv => whnf) | (refine ⟨by decide, ?_⟩; conv => whnf))
    · split <;> rename_i c5 <;> (conv => whnf) <;> repeat (first | (refine rest_vc ?_; conv => whnf) | (refine ⟨by decide, ?_⟩; conv => whnf))
      · refine CallIn.o [0] (ih e4 p m l1 (by omega) g1 (by omega) (by omega) g4) (k := ?_)
        rintro r st' ⟨e5, rfl, rfl, v1, v2⟩
        obtain ⟨w1, w2⟩ := g6 e5 v1 v2
        conv => whnf
        repeat (first | (refine rest_vc ?_; conv => whnf) | (refine ⟨by decide, ?_⟩; conv => whnf))
        exact ⟨((m + 1, q), l1, true, ap), e5, fun _ => 0, ⟨by show a ≤ m + 1; omega, h2, by show m + 1 ≤ q; omega, v1.1.trans (g3.trans s3), w1, fun R r1 r2 => h6 R (permIn_trans _ _ _ _ _ P3 (w2 R r1 r2).1) (w2 R r1 r2).2⟩, by show q - (m + 1) < q - p; omega, rfl, ⟨rfl, congrArg (vI .i64) (succ64 (by omega)), rfl, rfl, rfl, rfl, rfl, trivial⟩, rfl, fun _ _ => rfl⟩
      · refine CallIn.o [0] (ih e4 p m l1 (by omega) g1 (by omega) (by omega) g4) (k := ?_)
        rintro r st' ⟨e5, rfl, rfl, v1, v2⟩
        obtain ⟨w1, w2⟩ := g6 e5 v1 v2
        conv => whnf
        repeat (first | (refine rest_vc ?_; conv => whnf) | (refine ⟨by decide, ?_⟩; conv => whnf))
        exact ⟨((m + 1, q), l1, false, ap), e5, fun _ => 0, ⟨by show a ≤ m + 1; omega, h2, by show m + 1 ≤ q; omega, v1.1.trans (g3.trans s3), w1, fun R r1 r2 => h6 R (permIn_trans _ _ _ _ _ P3 (w2 R r1 r2).1) (w2 R r1 r2).2⟩, by show q - (m + 1) < q - p; omega, rfl, ⟨rfl, congrArg (vI .i64) (succ64 (by omega)), rfl, rfl, rfl, rfl, rfl, trivial⟩, rfl, fun _ _ => rfl⟩
    · split <;> rename_i c5 <;> (conv => whnf) <;> repeat (first | (refine rest_vc ?_; conv => whnf) | (refine ⟨by decide, ?_⟩; conv => whnf))
      · refine CallIn.o [0] hr (k := ?_)
        rintro r st' ⟨e5, rfl, rfl, v1, v2⟩
        obtain ⟨w1, w2⟩ := g7 e5 v1 v2
        conv => whnf
        repeat (first | (refine rest_vc ?_; conv => whnf) | (refine ⟨by decide, ?_⟩; conv => whnf))
        exact ⟨((p, m), l1, true, ap), e5, fun _ => 0, ⟨h1, by show m ≤ b; omega, g1, v1.1.trans (g3.trans s3), w1, fun R r1 r2 => h6 R (permIn_trans _ _ _ _ _ P3 (w2 R r1 r2).1) (w2 R r1 r2).2⟩, by show m - p < q - p; omega, rfl, ⟨rfl, rfl, rfl, rfl, rfl, rfl, rfl, trivial⟩, rfl, fun _ _ => rfl⟩
      · refine CallIn.o [0] hr (k := ?_)
        rintro r st' ⟨e5, rfl, rfl, v1, v2⟩
        obtain ⟨w1, w2⟩ := g7 e5 v1 v2
        conv => whnf
        repeat (first | (refine rest_vc ?_; conv => whnf) | (refine ⟨by decide, ?_⟩; conv => whnf))
        exact ⟨((p, m), l1, false, ap), e5, fun _ => 0, ⟨h1, by show m ≤ b; omega, g1, v1.1.trans (g3.trans s3), w1, fun R r1 r2 => h6 R (permIn_trans _ _ _ _ _ P3 (w2 R r1 r2).1) (w2 R r1 r2).2⟩, by show m - p < q - p; omega, rfl, ⟨rfl, rfl, rfl, rfl, rfl, rfl, rfl, trivial⟩, rfl, fun _ _ => rfl⟩
end Go.Proofs.Ytlnmkolppgkglaa
