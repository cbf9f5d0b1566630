/- law27: the tag of bytes. -/
import Derived.Test.Ytlnmkolppgkglaa27C
set_option linter.all false
set_option maxHeartbeats 4000000
set_option maxRecDepth 100000
namespace Go.Proofs.Ytlnmkolppgkglaa
open Go Go.RowKit Go.Sy Go.Proofs

abbrev xorI (a b : Int) : Int := iXor .u64 a b
abbrev orI (a b : Int) : Int := iOr .u64 a b
abbrev addI (a b : Int) : Int := IntKind.u64.wrap (a + b)
abbrev shlI (a : Int) (n : Int) : Int := iShl .u64 a n
abbrev shrI (a : Int) (n : Int) : Int := iShr .u64 a n
def rotI (v : Int) (n : Nat) : Int := orI (shlI v n) (shrI v (64 - n : Nat))

theorem len64_ok : CallOk Try.prog 72 [vI .u64 18446744073709551615] [] fun r st' => st' = [] ∧ r = vI .i64 64 := by
  refine callOk_of true 0 Try.func72 rfl rfl (Nat.le_refl _) ?_
  conv => whnf
  repeat (refine rest_vc ?_; conv => whnf)
  refine ⟨by decide, ?_⟩
  conv => whnf
  repeat (refine rest_vc ?_; conv => whnf)
  refine ⟨by decide, ?_⟩
  conv => whnf
  repeat (refine rest_vc ?_; conv => whnf)
  refine ⟨by decide, ?_⟩
  conv => whnf
  repeat (refine rest_vc ?_; conv => whnf)
  refine ⟨by decide, ?_⟩
  conv => whnf
  repeat (refine rest_vc ?_; conv => whnf)
  exact ⟨rfl, rfl⟩

theorem turn_ok (v : Int) (n : Nat) (hn : n < 64) : CallOk Try.prog 75 [vI .u64 v, vI .i64 n] [] fun r st' => st' = [] ∧ r = vI .u64 (rotI v n) := by
  refine callOk_of true 0 Try.func75 rfl rfl (Nat.le_refl _) ?_
  conv => whnf
  repeat (refine rest_vc ?_; conv => whnf)
  refine .pure (fun r => r = vI .i64 64) (len64_ok.mono fun r st' h => h) rfl (.inl rfl) ?_
  rintro r rfl
  conv => whnf
  repeat (refine rest_vc ?_; conv => whnf)
  split
  · conv => whnf
    repeat (refine rest_vc ?_; conv => whnf)
    have e2 : IntKind.i64.wrap (64 - (n : Int)) = ((64 - n : Nat) : Int) := by rw [w64 (by omega) (by omega)]; omega
    refine hand_draw [] (fun _ _ => True) rfl (by kernel_rfl) rfl ?_
    conv => whnf
    repeat (refine rest_vc ?_; conv => whnf)
    refine ⟨by omega, ?_⟩
    conv => whnf
    repeat (refine rest_vc ?_; conv => whnf)
    refine ⟨by rw [e2]; omega, ?_⟩
    conv => whnf
    repeat (refine rest_vc ?_; conv => whnf)
    refine ⟨rfl, congrArg (vI .u64) ?_⟩
    unfold rotI
    rw [e2]
  · rename_i h
    have := of_decide_eq_false h
    omega

/-- The number of bytes, the lowest first. -/
def gtG (l : List Int) : Nat → Int → Int
  | 0, n => n
  | k + 1, n => gtG l k (orI (shlI n 8) (IntKind.u64.wrap (l.getD k 0)))
def getI (l : List Int) : Int := gtG l l.length 0

theorem get_ok (nl : Bool) (l : List Int) (hl : (l.length : Int) ≤ 100000) : CallOk Try.prog 59 [bts nl l, vB true] [] fun r st' => st' = [] ∧ r = vI .u64 (getI l) := by
  refine callOk_of true 0 Try.func59 rfl rfl (Nat.le_refl _) ?_
  conv => whnf
  repeat (refine rest_vc ?_; conv => whnf)
  intro _
  conv => whnf
  repeat (refine rest_vc ?_; conv => whnf)
  refine awp_loop2 (n := 35) (α := Nat) (β := Int) (fun k n => k ≤ l.length ∧ gtG l (l.length - k) n = getI l) (fun k n => [(0, bts nl l), (1, vB true), (5, vI .u64 n), (8, vI .i64 (u8s l).length), (9, vI .i64 k)]) (fun _ _ => []) (fun k _ => l.length - k) 0 0 (fun _ => 0)
    ⟨Nat.zero_le _, rfl⟩ rfl ⟨rfl, rfl, rfl, rfl, rfl, trivial⟩ rfl (fun _ _ => rfl) (fun _ _ => ⟨Nat.le_refl _, rfl, rfl⟩) ?_
  rintro k n ⟨hk, hc⟩
  conv => whnf
  repeat (refine rest_vc ?_; conv => whnf)
  split
  · rename_i h
    have h := of_decide_eq_true h
    rw [u8s_len] at h
    conv => whnf
    repeat (refine rest_vc ?_; conv => whnf)
    refine ⟨by decide, ?_⟩
    conv => whnf
    repeat (refine rest_vc ?_; conv => whnf)
    intro _
    conv => whnf
    repeat (refine rest_vc ?_; conv => whnf)
    have e1 : IntKind.i64.wrap (IntKind.i64.wrap (((u8s l).length : Int) - 1) - k) = ((l.length - 1 - k : Nat) : Int) := by
      rw [u8s_len, w64 (n := (l.length : Int) - 1) (by omega) (by omega), w64 (by omega) (by omega)]; omega
    refine ⟨by rw [e1, u8s_len]; omega, fun p hp => ?_⟩
    rw [e1] at hp
    obtain ⟨rfl, hlt⟩ := u8s_get hp
    conv => whnf
    repeat (refine rest_vc ?_; conv => whnf)
    refine ⟨k + 1, _, fun _ => 0, ⟨by omega, ?_⟩, by omega, rfl, ⟨rfl, rfl, rfl, rfl, congrArg (vI .i64) (by rw [w64 (by omega) (by omega)]; omega), trivial⟩, rfl, fun _ _ => rfl⟩
    rw [← hc, show l.length - k = (l.length - (k + 1)) + 1 by omega]
    have : (l.length - 1 - k : Nat) = l.length - (k + 1) := by omega
    rw [Int.toNat_natCast, this]
    rfl
  · rename_i h
    have h := of_decide_eq_false h
    rw [u8s_len] at h
    conv => whnf
    repeat (refine rest_vc ?_; conv => whnf)
    refine ⟨rfl, congrArg (vI .u64) ?_⟩
    rw [← hc, show l.length - k = 0 by omega]
    rfl

/-- Eight bytes of a number, the lowest first. -/
def putI (n : Int) : List Int := (List.range 8).map fun i => IntKind.u8.wrap (shrI n (8 * i : Nat))

theorem append_byte (l : List Int) (x : Int) : u8s l ++ [PV.val (.int .u8 x)] = u8s (l ++ [x]) := by simp [u8s]

theorem put_ok (n : Int) : CallOk Try.prog 62 [.pure (.list 1 true []), vI .u64 n, vI .i64 8, vB true] [] fun r st' => st' = [] ∧ r = bts false (putI n) := by
  refine callOk_of true 0 Try.func62 rfl rfl (Nat.le_refl _) ?_
  conv => whnf
  repeat (refine rest_vc ?_; conv => whnf)
  refine awp_loop (n := 31) (α := Nat) (fun i => i ≤ 8) (fun i => [(0, match i with | 0 => .pure (.list 1 true []) | _ + 1 => .vref 0 0), (1, vI .u64 n), (2, vI .i64 8), (3, vB true), (11, vI .i64 8), (12, vI .i64 i)])
    (fun i => match i with | 0 => [] | i + 1 => [.vec 0 5 1 false (u8s ((List.range (i + 1)).map fun i => IntKind.u8.wrap (shrI n (8 * i : Nat))))]) (fun i => 8 - i) 0 (fun _ => 0)
    (by decide) rfl ⟨rfl, rfl, rfl, rfl, rfl, rfl, trivial⟩ rfl (fun _ _ => rfl) (fun i => by cases i <;> exact ⟨Nat.zero_le _, rfl, rfl⟩) ?_
  intro i hi
  have e1 : ∀ i : Nat, i < 8 → IntKind.i64.wrap (8 * (i : Int)) = ((8 * i : Nat) : Int) := fun i h => by rw [w64 (by omega) (by omega)]; omega
  cases i with
  | zero =>
    conv => whnf
    repeat (refine rest_vc ?_; conv => whnf)
    refine ⟨by decide, ?_⟩
    conv => whnf
    repeat (refine rest_vc ?_; conv => whnf)
    refine ⟨by show 1 * 1 ≤ 140737488355328; decide, ?_⟩
    conv => whnf
    repeat (refine rest_vc ?_; conv => whnf)
    refine ⟨1, fun _ => 0, by decide, by decide, rfl, ⟨rfl, rfl, rfl, rfl, rfl, rfl, trivial⟩, rfl, fun _ _ => rfl⟩
  | succ i =>
    conv => whnf
    repeat (refine rest_vc ?_; conv => whnf)
    split
    · rename_i h
      have h := of_decide_eq_true h
      conv => whnf
      repeat (refine rest_vc ?_; conv => whnf)
      have e2 : IntKind.i64.wrap (8 * ((i + 1 : Nat) : Int)) = ((8 * (i + 1) : Nat) : Int) := e1 _ (by omega)
      refine ⟨by rw [e2]; omega, ?_⟩
      conv => whnf
      repeat (refine rest_vc ?_; conv => whnf)
      refine ⟨by show (_ + 1) * 1 ≤ _; rw [u8s_len]; simp; omega, ?_⟩
      conv => whnf
      repeat (refine rest_vc ?_; conv => whnf)
      refine ⟨i + 2, fun _ => 1, by omega, by omega, rfl, ⟨rfl, rfl, rfl, rfl, rfl, congrArg (vI .i64) (by rw [w64 (by omega) (by omega)]; omega), trivial⟩, ?_, fun o h => (by cases h)⟩
      refine congrArg (fun l => [Ob.vec 1 5 1 false l]) ?_
      rw [List.range_succ (n := i + 1), List.map_append, List.map_cons, List.map_nil, ← append_byte]
      refine congrArg (fun x => _ ++ [PV.val (.int .u8 x)]) ?_
      rw [e2]
    · rename_i h
      have h := of_decide_eq_false h
      have : i = 7 := by omega
      subst this
      conv => whnf
      repeat (refine rest_vc ?_; conv => whnf)
      exact ⟨rfl, rfl⟩

structure Mix where
  a : Int
  b : Int
  c : Int
  d : Int
def Mix.sv (m : Mix) : List SV := [vI .u64 m.a, vI .u64 m.b, vI .u64 m.c, vI .u64 m.d]
def b1 (a b : Int) : Int := xorI (rotI b 13) (addI a b)
def d1 (c d : Int) : Int := xorI (rotI d 16) (addI c d)
def a3 (a b c d : Int) : Int := addI (rotI (addI a b) 32) (d1 c d)
def c2 (a b c d : Int) : Int := addI (addI c d) (b1 a b)
def Mix.round (m : Mix) : Mix := ⟨a3 m.a m.b m.c m.d, xorI (rotI (b1 m.a m.b) 17) (c2 m.a m.b m.c m.d), rotI (c2 m.a m.b m.c m.d) 32, xorI (rotI (d1 m.c m.d) 21) (a3 m.a m.b m.c m.d)⟩

theorem round_ok (a b c d : Int) : CallOk Try.prog 61 [.ptr 0 0] [.cells 91 [vI .u64 a, vI .u64 b, vI .u64 c, vI .u64 d]] fun r st' => r = .tup [] ∧ st' = [.cells 91 (Mix.round ⟨a, b, c, d⟩).sv] := by
  refine callOk_of false 1 Try.func61 rfl rfl (Nat.le_refl _) ?_
  conv => whnf
  repeat (refine rest_vc ?_; conv => whnf)
  refine hand_draw [11] (fun _ _ => True) rfl (by kernel_rfl) rfl ?_
  conv => whnf
  repeat (refine rest_vc ?_; conv => whnf)
  refine hand_draw [13] (fun _ r => r = vI .u64 (rotI (b) 13)) rfl (by kernel_rfl) rfl ?_
  conv => whnf
  repeat (refine rest_vc ?_; conv => whnf)
  refine .draw ((turn_ok _ 13 (by decide)).mono fun r st' h => h) rfl (.inl rfl) ?_
  rintro r rfl
  conv => whnf
  repeat (refine rest_vc ?_; conv => whnf)
  refine .pure (fun r => r = vI .u64 (rotI (addI a b) 32)) ((turn_ok _ 32 (by decide)).mono fun r st' h => h) rfl (.inl rfl) ?_
  rintro r rfl
  conv => whnf
  repeat (refine rest_vc ?_; conv => whnf)
  refine hand_draw [11] (fun _ _ => True) rfl (by kernel_rfl) rfl ?_
  conv => whnf
  repeat (refine rest_vc ?_; conv => whnf)
  refine hand_draw [13] (fun _ r => r = vI .u64 (rotI (d) 16)) rfl (by kernel_rfl) rfl ?_
  conv => whnf
  repeat (refine rest_vc ?_; conv => whnf)
  refine .draw ((turn_ok _ 16 (by decide)).mono fun r st' h => h) rfl (.inl rfl) ?_
  rintro r rfl
  conv => whnf
  repeat (refine rest_vc ?_; conv => whnf)
  refine hand_draw [11] (fun _ _ => True) rfl (by kernel_rfl) rfl ?_
  conv => whnf
  repeat (refine rest_vc ?_; conv => whnf)
  refine hand_draw [13] (fun _ r => r = vI .u64 (rotI (d1 c d) 21)) rfl (by kernel_rfl) rfl ?_
  conv => whnf
  repeat (refine rest_vc ?_; conv => whnf)
  refine .draw ((turn_ok _ 21 (by decide)).mono fun r st' h => h) rfl (.inl rfl) ?_
  rintro r rfl
  conv => whnf
  repeat (refine rest_vc ?_; conv => whnf)
  refine hand_draw [11] (fun _ _ => True) rfl (by kernel_rfl) rfl ?_
  conv => whnf
  repeat (refine rest_vc ?_; conv => whnf)
  refine hand_draw [13] (fun _ r => r = vI .u64 (rotI (b1 a b) 17)) rfl (by kernel_rfl) rfl ?_
  conv => whnf
  repeat (refine rest_vc ?_; conv => whnf)
  refine .draw ((turn_ok _ 17 (by decide)).mono fun r st' h => h) rfl (.inl rfl) ?_
  rintro r rfl
  conv => whnf
  repeat (refine rest_vc ?_; conv => whnf)
  refine .pure (fun r => r = vI .u64 (rotI (c2 a b c d) 32)) ((turn_ok _ 32 (by decide)).mono fun r st' h => h) rfl (.inl rfl) ?_
  rintro r rfl
  conv => whnf
  repeat (refine rest_vc ?_; conv => whnf)
  exact ⟨rfl, rfl⟩
end Go.Proofs.Ytlnmkolppgkglaa
