/- law27: the sort's patterns broken, pivots. -/
import Derived.Test.Ytlnmkolppgkglaa27U
set_option linter.all false
set_option maxHeartbeats 4000000
set_option maxRecDepth 100000
namespace Go.Proofs.Ytlnmkolppgkglaa
open Go Go.RowKit Go.Sy Go.Proofs Go.Sort

set_option maxHeartbeats 1000000 in
theorem break_ok (nl : Bool) (d : Array BV) (a b : Nat) (hab : a < b) (hb : b ≤ d.size) (hd : d.size < 2 ^ 60) :
    CallOk Try.prog 65 [.vref 0 0, vI .i64 a, vI .i64 b, cmpV] [vecB nl d] fun r st' => ∃ e, r = .tup [] ∧ st' = [vecB nl e] ∧ PermIn a b d e := by
  refine callOk_of false 1 Try.func65 rfl rfl (Nat.le_refl _) ?_
  have eb := sub64 (i := b) (j := a) (by omega) (by omega)
  conv => whnf
  repeat (first | (refine rest_vc ?_; conv => whnf) | (refine ⟨by decide, ?_⟩; conv => whnf))
  split <;> rename_i h <;> (conv => whnf) <;> repeat (first | (refine rest_vc ?_; conv => whnf) | (refine ⟨by decide, ?_⟩; conv => whnf))
  · have h := of_decide_eq_true h
    rw [eb] at h
    have hp := pow2_ok (b - a) (by omega) (by omega)
    rw [← eb] at hp
    refine CallIn.top hp (k := ?_)
    rintro r ⟨m, rfl, m1, m2⟩
    obtain ⟨q, hq⟩ : ∃ q, q = (b - a) / 4 * 2 := ⟨_, rfl⟩
    have hq1 : 4 ≤ q ∧ q + 1 < b - a := by omega
    have eq0 : IntKind.i64.wrap ((a : Int) + IntKind.i64.wrap (IntKind.i64.wrap (((b - a : Nat) : Int).tdiv 4) * 2)) = ((a + q : Nat) : Int) := by
      rw [Int.tdiv_eq_ediv_of_nonneg (by omega), w64 (n := ((b - a : Nat) : Int) / 4) (by omega) (by omega), w64 (n := ((b - a : Nat) : Int) / 4 * 2) (by omega) (by omega), w64 (by omega) (by omega)]
      omega
    have eq1 := succ64 (j := a + q) (by omega)
    have eq2 := pred64 (j := a + q) (by omega) (by omega)
    conv => whnf
    repeat (first | (refine rest_vc ?_; conv => whnf) | (refine ⟨by decide, ?_⟩; conv => whnf))
    refine awp_loop3 (n := 67) (α := Nat) (β := Int) (γ := Array BV) (fun idx s e => a + q - 1 ≤ idx ∧ idx ≤ a + q + 2 ∧ PermIn a b d e) (fun idx s e => [(0, .vref 0 0), (1, vI .i64 a), (8, vI .i64 (b - a : Nat)), (9, .ptr 1 0), (10, vI .u64 m), (11, vI .i64 idx)]) (fun idx s e => [vecB nl e, .cells 112 [vI .u64 s]]) (fun idx _ _ => a + q + 2 - idx) (a + q - 1) _ d (fun _ => 0)
      ⟨by omega, by omega, permIn_refl _ _ _⟩ rfl ⟨rfl, rfl, congrArg (vI .i64) eb, rfl, rfl, congrArg (vI .i64) (by rw [eb, eq0, eq2]), trivial⟩ rfl (fun _ _ => rfl) (fun _ _ _ => ⟨by show 1 ≤ 2; omega, rfl, rfl⟩) ?_
    rintro idx s e ⟨k1, k2, k3⟩
    have hes : e.size = d.size := k3.1
    conv => whnf
    repeat (first | (refine rest_vc ?_; conv => whnf) | (refine ⟨by decide, ?_⟩; conv => whnf))
    split <;> rename_i g <;> (conv => whnf) <;> repeat (first | (refine rest_vc ?_; conv => whnf) | (refine ⟨by decide, ?_⟩; conv => whnf))
    · have g := of_decide_eq_true g
      rw [eq0, eq1] at g
      refine CallIn.o [1] (next_ok s) (k := ?_)
      rintro r st' ⟨x, y, rfl, rfl⟩
      conv => whnf
      repeat (first | (refine rest_vc ?_; conv => whnf) | (refine ⟨by decide, ?_⟩; conv => whnf))
      obtain ⟨v, hv, hlt⟩ := and_mask x m m1 (by omega)
      have ev : IntKind.i64.wrap (iAnd .u64 x (IntKind.u64.wrap ((m : Int) - 1))) = (v : Int) := by rw [hv, w64 (by omega) (by omega)]
      split <;> rename_i u <;> (conv => whnf) <;> repeat (first | (refine rest_vc ?_; conv => whnf) | (refine ⟨by decide, ?_⟩; conv => whnf))
      · have u := of_decide_eq_true u
        rw [ev] at u
        have ew : IntKind.i64.wrap ((v : Int) - ((b - a : Nat) : Int)) = ((v - (b - a) : Nat) : Int) := by rw [w64 (by omega) (by omega)]; omega
        have eo := add64 (i := a) (j := v - (b - a)) (by omega)
        refine hand_draw [17, 19] (fun _ _ => True) rfl (by kernel_rfl) rfl ?_
        conv => whnf
        repeat (first | (refine rest_vc ?_; conv => whnf) | (refine ⟨by decide, ?_⟩; conv => whnf))
        refine ⟨by simp only [encs_len, List.length_set, ev, ew, eo] <;> omega, ?_⟩
        conv => whnf
        repeat (first | (refine rest_vc ?_; conv => whnf) | (refine ⟨by decide, ?_⟩; conv => whnf))
        refine ⟨by simp only [encs_len, List.length_set, ev, ew, eo] <;> omega, fun p hp => ?_⟩
        simp only [ev, ew, eo, Int.toNat_natCast] at hp
        obtain ⟨rfl, _⟩ := encs_get hp
        clear hp
        conv => whnf
        repeat (first | (refine rest_vc ?_; conv => whnf) | (refine ⟨by decide, ?_⟩; conv => whnf))
        refine ⟨by simp only [encs_len, List.length_set, ev, ew, eo] <;> omega, ?_⟩
        conv => whnf
        repeat (first | (refine rest_vc ?_; conv => whnf) | (refine ⟨by decide, ?_⟩; conv => whnf))
        refine ⟨by simp only [encs_len, List.length_set, ev, ew, eo] <;> omega, fun p hp => ?_⟩
        simp only [ev, ew, eo, Int.toNat_natCast] at hp
        obtain ⟨rfl, _⟩ := encs_get hp
        clear hp
        conv => whnf
        repeat (first | (refine rest_vc ?_; conv => whnf) | (refine ⟨by decide, ?_⟩; conv => whnf))
        refine ⟨by simp only [encs_len, List.length_set, ev, ew, eo] <;> omega, ?_⟩
        conv => whnf
        repeat (first | (refine rest_vc ?_; conv => whnf) | (refine ⟨by decide, ?_⟩; conv => whnf))
        refine ⟨by simp only [encs_len, List.length_set, ev, ew, eo] <;> omega, fun p hp => ?_⟩
        first | obtain ⟨_, rfl⟩ := encs_any0 hp | obtain ⟨_, rfl⟩ := encs_any hp
        clear hp
        conv => whnf
        repeat (first | (refine rest_vc ?_; conv => whnf) | (refine ⟨by decide, ?_⟩; conv => whnf))
        refine ⟨by simp only [encs_len, List.length_set, ev, ew, eo] <;> omega, ?_⟩
        conv => whnf
        repeat (first | (refine rest_vc ?_; conv => whnf) | (refine ⟨by decide, ?_⟩; conv => whnf))
        refine ⟨by simp only [encs_len, List.length_set, ev, ew, eo] <;> omega, fun p hp => ?_⟩
        first | obtain ⟨_, rfl⟩ := encs_any0 hp | obtain ⟨_, rfl⟩ := encs_any hp
        clear hp
        conv => whnf
        repeat (first | (refine rest_vc ?_; conv => whnf) | (refine ⟨by decide, ?_⟩; conv => whnf))
        refine ⟨idx + 1, y, swp e idx (a + (v - (b - a))), fun _ => 0, ⟨by omega, by omega, permIn_trans _ _ _ _ _ k3 (swp_permIn e a b idx (a + (v - (b - a))) (by omega) (by omega) (by omega) (by omega) (by rw [hes]; exact hb))⟩, by omega, rfl, ⟨rfl, rfl, rfl, rfl, rfl, congrArg (vI .i64) (succ64 (by omega)), trivial⟩, congrArg (fun l => [Ob.vec 0 22 1 nl l, Ob.cells 112 [vI .u64 y]]) ?_, fun _ _ => rfl⟩
        show ((encs e).set _ _).set _ _ = _
        simp only [ev, ew, eo, Int.toNat_natCast]
        exact encs_swp e idx (a + (v - (b - a)))
      · have u := of_decide_eq_false u
        rw [ev] at u
        have eo := add64 (i := a) (j := v) (by omega)
        refine hand_draw [17, 19] (fun _ _ => True) rfl (by kernel_rfl) rfl ?_
        conv => whnf
        repeat (first | (refine rest_vc ?_; conv => whnf) | (refine ⟨by decide, ?_⟩; conv => whnf))
        refine ⟨by simp only [encs_len, List.length_set, ev, eo] <;> omega, ?_⟩
        conv => whnf
        repeat (first | (refine rest_vc ?_; conv => whnf) | (refine ⟨by decide, ?_⟩; conv => whnf))
        refine ⟨by simp only [encs_len, List.length_set, ev, eo] <;> omega, fun p hp => ?_⟩
        simp only [ev, eo, Int.toNat_natCast] at hp
        obtain ⟨rfl, _⟩ := encs_get hp
        clear hp
        conv => whnf
        repeat (first | (refine rest_vc ?_; conv => whnf) | (refine ⟨by decide, ?_⟩; conv => whnf))
        refine ⟨by simp only [encs_len, List.length_set, ev, eo] <;> omega, ?_⟩
        conv => whnf
        repeat (first | (refine rest_vc ?_; conv => whnf) | (refine ⟨by decide, ?_⟩; conv => whnf))
        refine ⟨by simp only [encs_len, List.length_set, ev, eo] <;> omega, fun p hp => ?_⟩
        simp only [ev, eo, Int.toNat_natCast] at hp
        obtain ⟨rfl, _⟩ := encs_get hp
        clear hp
        conv => whnf
        repeat (first | (refine rest_vc ?_; conv => whnf) | (refine ⟨by decide, ?_⟩; conv => whnf))
        refine ⟨by simp only [encs_len, List.length_set, ev, eo] <;> omega, ?_⟩
        conv => whnf
        repeat (first | (refine rest_vc ?_; conv => whnf) | (refine ⟨by decide, ?_⟩; conv => whnf))
        refine ⟨by simp only [encs_len, List.length_set, ev, eo] <;> omega, fun p hp => ?_⟩
        first | obtain ⟨_, rfl⟩ := encs_any0 hp | obtain ⟨_, rfl⟩ := encs_any hp
        clear hp
        conv => whnf
        repeat (first | (refine rest_vc ?_; conv => whnf) | (refine ⟨by decide, ?_⟩; conv => whnf))
        refine ⟨by simp only [encs_len, List.length_set, ev, eo] <;> omega, ?_⟩
        conv => whnf
        repeat (first | (refine rest_vc ?_; conv => whnf) | (refine ⟨by decide, ?_⟩; conv => whnf))
        refine ⟨by simp only [encs_len, List.length_set, ev, eo] <;> omega, fun p hp => ?_⟩
        first | obtain ⟨_, rfl⟩ := encs_any0 hp | obtain ⟨_, rfl⟩ := encs_any hp
        clear hp
        conv => whnf
        repeat (first | (refine rest_vc ?_; conv => whnf) | (refine ⟨by decide, ?_⟩; conv => whnf))
        refine ⟨idx + 1, y, swp e idx (a + v), fun _ => 0, ⟨by omega, by omega, permIn_trans _ _ _ _ _ k3 (swp_permIn e a b idx (a + v) (by omega) (by omega) (by omega) (by omega) (by rw [hes]; exact hb))⟩, by omega, rfl, ⟨rfl, rfl, rfl, rfl, rfl, congrArg (vI .i64) (succ64 (by omega)), trivial⟩, congrArg (fun l => [Ob.vec 0 22 1 nl l, Ob.cells 112 [vI .u64 y]]) ?_, fun _ _ => rfl⟩
        show ((encs e).set _ _).set _ _ = _
        simp only [ev, eo, Int.toNat_natCast]
        exact encs_swp e idx (a + v)
    · exact ⟨e, rfl, rfl, k3⟩
  · exact ⟨d, rfl, rfl, permIn_refl _ _ _⟩

theorem median_ok' (nl : Bool) (d : Array BV) (a b c : Nat) (s : Int) (ha : a < d.size) (hb : b < d.size) (hc : c < d.size) :
    CallOk Try.prog 80 [.vref 0 0, vI .i64 a, vI .i64 b, vI .i64 c, .ptr 1 0, cmpV] [vecB nl d, .cells 3 [vI .i64 s]] fun r st' => ∃ (s' : Int) (x : Nat), st' = [vecB nl d, .cells 3 [vI .i64 s']] ∧ r = vI .i64 x ∧ (x = a ∨ x = b ∨ x = c) := by
  refine (median_ok nl d a b c s ha hb hc).mono ?_
  rintro r st' ⟨⟨s', rfl⟩, rfl | rfl | rfl⟩
  · exact ⟨s', a, rfl, rfl, by simp⟩
  · exact ⟨s', b, rfl, rfl, by simp⟩
  · exact ⟨s', c, rfl, rfl, by simp⟩

set_option maxHeartbeats 1000000 in
theorem pivot_ok (nl : Bool) (d : Array BV) (a b : Nat) (hab : a + 12 < b) (hb : b ≤ d.size) (hd : d.size < 2 ^ 60) :
    CallOk Try.prog 66 [.vref 0 0, vI .i64 a, vI .i64 b, cmpV] [vecB nl d] fun r st' => st' = [vecB nl d] ∧ ∃ x h : Nat, r = .tup [vI .i64 x, vI .i64 h] ∧ a ≤ x ∧ x < b := by
  refine callOk_of false 1 Try.func66 rfl rfl (Nat.le_refl _) ?_
  have eb := sub64 (i := b) (j := a) (by omega) (by omega)
  obtain ⟨q, hq⟩ : ∃ q, q = (b - a) / 4 := ⟨_, rfl⟩
  have e0 : IntKind.i64.wrap (((b - a : Nat) : Int).tdiv 4) = (q : Int) := by rw [Int.tdiv_eq_ediv_of_nonneg (by omega), w64 (by omega) (by omega)]; omega
  have ei : IntKind.i64.wrap ((a : Int) + IntKind.i64.wrap (IntKind.i64.wrap ((IntKind.i64.wrap ((b : Int) - (a : Int))).tdiv 4) * 1)) = ((a + q : Nat) : Int) := by rw [eb, e0, w64 (n := (q : Int) * 1) (by omega) (by omega), w64 (by omega) (by omega)]; omega
  have ej : IntKind.i64.wrap ((a : Int) + IntKind.i64.wrap (IntKind.i64.wrap ((IntKind.i64.wrap ((b : Int) - (a : Int))).tdiv 4) * 2)) = ((a + q * 2 : Nat) : Int) := by rw [eb, e0, w64 (n := (q : Int) * 2) (by omega) (by omega), w64 (by omega) (by omega)]; omega
  have ek : IntKind.i64.wrap ((a : Int) + IntKind.i64.wrap (IntKind.i64.wrap ((IntKind.i64.wrap ((b : Int) - (a : Int))).tdiv 4) * 3)) = ((a + q * 3 : Nat) : Int) := by rw [eb, e0, w64 (n := (q : Int) * 3) (by omega) (by omega), w64 (by omega) (by omega)]; omega
  refine rest_vc ?_
  conv => whnf
  repeat (refine ⟨by decide, ?_⟩; conv => whnf)
  refine rest_vc ?_
  conv => whnf
  repeat (refine ⟨by decide, ?_⟩; conv => whnf)
  refine rest_vc ?_
  conv => whnf
  repeat (refine ⟨by decide, ?_⟩; conv => whnf)
  refine rest_vc ?_
  conv => whnf
  repeat (refine ⟨by decide, ?_⟩; conv => whnf)
  refine rest_vc ?_
  conv => whnf
  repeat (refine ⟨by decide, ?_⟩; conv => whnf)
  refine rest_join (α := Int × Nat) 63 (fun y => a ≤ y.2 ∧ y.2 < b) (fun y => [(11, .ptr 1 0), (13, vI .i64 y.2)]) (fun y => [vecB nl d, .cells 3 [vI .i64 y.1]]) (fun _ => ⟨by show 1 ≤ 2; omega, rfl, rfl⟩) ?_ ?_
  · conv => whnf
    repeat (first | (refine rest_vc ?_; conv => whnf) | (refine ⟨by decide, ?_⟩; conv => whnf))
    split <;> rename_i h <;> (conv => whnf) <;> repeat (first | (refine rest_vc ?_; conv => whnf) | (refine ⟨by decide, ?_⟩; conv => whnf))
    · split <;> rename_i g <;> (conv => whnf) <;> repeat (first | (refine rest_vc ?_; conv => whnf) | (refine ⟨by decide, ?_⟩; conv => whnf))
      · have g := of_decide_eq_true g
        rw [eb] at g
        have h1 := medianAdj_ok nl d (a + q) 0 (by omega) (by omega) (by omega)
        rw [← ei] at h1
        refine CallIn.o [0, 1] (h1) (k := ?_)
        rintro r st' ⟨s1, x1, rfl, rfl, p1, p2⟩
        conv => whnf
        repeat (first | (refine rest_vc ?_; conv => whnf) | (refine ⟨by decide, ?_⟩; conv => whnf))
        have h2 := medianAdj_ok nl d (a + q * 2) s1 (by omega) (by omega) (by omega)
        rw [← ej] at h2
        refine CallIn.o [0, 1] (h2) (k := ?_)
        rintro r st' ⟨s2, x2, rfl, rfl, p3, p4⟩
        conv => whnf
        repeat (first | (refine rest_vc ?_; conv => whnf) | (refine ⟨by decide, ?_⟩; conv => whnf))
        have h3 := medianAdj_ok nl d (a + q * 3) s2 (by omega) (by omega) (by omega)
        rw [← ek] at h3
        refine CallIn.o [0, 1] (h3) (k := ?_)
        rintro r st' ⟨s3, x3, rfl, rfl, p5, p6⟩
        conv => whnf
        repeat (first | (refine rest_vc ?_; conv => whnf) | (refine ⟨by decide, ?_⟩; conv => whnf))
        refine CallIn.o [0, 1] (median_ok' nl d x1 x2 x3 s3 (by omega) (by omega) (by omega)) (k := ?_)
        rintro r st' ⟨s4, x4, rfl, rfl, p7⟩
        conv => whnf
        repeat (first | (refine rest_vc ?_; conv => whnf) | (refine ⟨by decide, ?_⟩; conv => whnf))
        exact ⟨(s4, x4), fun _ => 0, ⟨by show a ≤ x4; omega, by show x4 < b; omega⟩, rfl, ⟨rfl, rfl, trivial⟩, rfl, fun _ _ => rfl⟩
      · have h1 := median_ok' nl d (a + q) (a + q * 2) (a + q * 3) 0 (by omega) (by omega) (by omega)
        rw [← ei, ← ej, ← ek] at h1
        refine CallIn.o [0, 1] (h1) (k := ?_)
        rintro r st' ⟨s4, x4, rfl, rfl, p7⟩
        conv => whnf
        repeat (first | (refine rest_vc ?_; conv => whnf) | (refine ⟨by decide, ?_⟩; conv => whnf))
        exact ⟨(s4, x4), fun _ => 0, ⟨by show a ≤ x4; omega, by show x4 < b; omega⟩, rfl, ⟨rfl, rfl, trivial⟩, rfl, fun _ _ => rfl⟩
    · have h := of_decide_eq_false h
      rw [eb] at h
      omega
  rintro ⟨s, x⟩ ⟨k1, k2⟩
  refine rest_vc ?_
  conv => whnf
  repeat (first | (refine rest_vc ?_; conv => whnf) | (refine ⟨by decide, ?_⟩; conv => whnf))
  split <;> rename_i h <;> (conv => whnf) <;> repeat (first | (refine rest_vc ?_; conv => whnf) | (refine ⟨by decide, ?_⟩; conv => whnf))
  · exact ⟨rfl, x, 1, rfl, k1, k2⟩
  · split <;> rename_i g <;> (conv => whnf) <;> repeat (first | (refine rest_vc ?_; conv => whnf) | (refine ⟨by decide, ?_⟩; conv => whnf))
    · exact ⟨rfl, x, 2, rfl, k1, k2⟩
    · exact ⟨rfl, x, 0, rfl, k1, k2⟩
end Go.Proofs.Ytlnmkolppgkglaa
