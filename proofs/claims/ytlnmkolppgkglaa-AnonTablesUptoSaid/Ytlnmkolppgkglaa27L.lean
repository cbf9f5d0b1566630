/- law27: the reference's bits, keepers, turns. -/
import Derived.Test.Ytlnmkolppgkglaa27K
set_option linter.all false
set_option maxHeartbeats 4000000
set_option maxRecDepth 100000
namespace Go.Proofs.Ytlnmkolppgkglaa
open Go Go.RowKit Go.Sy Go.Proofs

theorem rbit_ok (nl : Bool) (l : List Int) (i : Int) (h0 : 0 ≤ i) (h1 : i < 8 * l.length) (hl : (l.length : Int) ≤ 100000) (hb : Bts l) : CallOk Try.prog 48 [bts nl l, vI .i64 i] [] fun r st' => st' = [] ∧ r = vI .i64 (bitI l i) := by
  refine callOk_of true 0 Try.func48 rfl rfl (Nat.le_refl _) ?_
  have e1 : IntKind.i64.wrap (i.tdiv 8) = i / 8 := by rw [Int.tdiv_eq_ediv_of_nonneg h0, w64 (by omega) (by omega)]
  have e2 : IntKind.i64.wrap (7 - i.tmod 8) = 7 - i % 8 := by rw [Int.tmod_eq_emod_of_nonneg h0, w64 (by omega) (by omega)]
  conv => whnf
  repeat (first | (refine rest_vc ?_; conv => whnf) | (refine ⟨by decide, ?_⟩; conv => whnf))
  refine ⟨by rw [e1, u8s_len]; omega, fun p hp => ?_⟩
  obtain ⟨rfl, hlt⟩ := u8s_get hp
  conv => whnf
  repeat (first | (refine rest_vc ?_; conv => whnf) | (refine ⟨by decide, ?_⟩; conv => whnf))
  refine ⟨by (rw [e2]; omega), ?_⟩
  conv => whnf
  repeat (first | (refine rest_vc ?_; conv => whnf) | (refine ⟨by decide, ?_⟩; conv => whnf))
  refine ⟨rfl, congrArg (vI .i64) ?_⟩
  have hr := getD_rng hb (i / 8).toNat
  rw [e1, e2]
  unfold iShr bitI
  rw [w64 (by omega) (by omega), Int.fdiv_eq_ediv_of_nonneg _ (Int.le_of_lt (Int.pow_pos (by decide)))]
  have : min (7 - i % 8).toNat IntKind.i64.bits = (7 - i % 8).toNat := Nat.min_eq_left (by show _ ≤ 64; omega)
  rw [this, Int.tmod_eq_emod_of_nonneg (Int.ediv_nonneg (by omega) (Int.le_of_lt (Int.pow_pos (by decide))))]

theorem rcommon_ok (na nb : Bool) (a b : List Int) (hl : a.length = b.length) (ha : (a.length : Int) ≤ 100000) (ba : Bts a) (bb : Bts b) : CallOk Try.prog 34 [bts na a, bts nb b] [] fun r st' => st' = [] ∧ r = vI .i64 (cmB a b) := by
  refine callOk_of true 0 Try.func34 rfl rfl (Nat.le_refl _) ?_
  conv => whnf
  repeat (first | (refine rest_vc ?_; conv => whnf) | (refine ⟨by decide, ?_⟩; conv => whnf))
  refine awp_loop (n := 23) (α := Nat) (fun x => x ≤ 8 * a.length ∧ cmG (bitI a) (bitI b) (8 * a.length - x) x = cmB a b) (fun x => [(0, bts na a), (1, bts nb b), (5, vI .i64 x)]) (fun _ => []) (fun x => 8 * a.length - x) 0 (fun _ => 0)
    ⟨Nat.zero_le _, rfl⟩ rfl ⟨rfl, rfl, rfl, trivial⟩ rfl (fun _ _ => rfl) (fun x => ⟨Nat.le_refl _, rfl, rfl⟩) ?_
  rintro x ⟨hx, hc⟩
  conv => whnf
  repeat (first | (refine rest_vc ?_; conv => whnf) | (refine ⟨by decide, ?_⟩; conv => whnf))
  intro _
  conv => whnf
  repeat (first | (refine rest_vc ?_; conv => whnf) | (refine ⟨by decide, ?_⟩; conv => whnf))
  split <;> rename_i h <;> (conv => whnf) <;> repeat (first | (refine rest_vc ?_; conv => whnf) | (refine ⟨by decide, ?_⟩; conv => whnf))
  · have hlt : x < 8 * a.length := by
      have := of_decide_eq_true h
      rw [u8s_len, w64 (by omega) (by omega)] at this
      omega
    refine CallIn.to (rbit_ok na a x (by omega) (by omega) ha ba) (k := ?_)
    conv => whnf
    repeat (first | (refine rest_vc ?_; conv => whnf) | (refine ⟨by decide, ?_⟩; conv => whnf))
    refine CallIn.to (rbit_ok nb b x (by omega) (by omega) (by omega) bb) (k := ?_)
    conv => whnf
    repeat (first | (refine rest_vc ?_; conv => whnf) | (refine ⟨by decide, ?_⟩; conv => whnf))
    split <;> rename_i h2 <;> (conv => whnf) <;> repeat (first | (refine rest_vc ?_; conv => whnf) | (refine ⟨by decide, ?_⟩; conv => whnf))
    · have he : bitI a x = bitI b x := by simpa using h2
      refine ⟨x + 1, fun _ => 0, ⟨by omega, ?_⟩, by omega, rfl, ⟨rfl, rfl, congrArg (vI .i64) (by rw [w64 (by omega) (by omega)]; omega), trivial⟩, rfl, fun _ _ => rfl⟩
      rw [← hc, show 8 * a.length - x = (8 * a.length - (x + 1)) + 1 by omega]
      simp only [cmG, he, if_true]
    · have he : bitI a x ≠ bitI b x := by simpa using h2
      refine ⟨rfl, congrArg (fun n : Nat => vI .i64 n) ?_⟩
      rw [← hc, show 8 * a.length - x = (8 * a.length - (x + 1)) + 1 by omega]
      simp only [cmG, he, if_false]
  · have hge : x = 8 * a.length := by
      have := of_decide_eq_false h
      rw [u8s_len, w64 (by omega) (by omega)] at this
      omega
    refine ⟨rfl, congrArg (fun n : Nat => vI .i64 n) ?_⟩
    rw [← hc, hge, Nat.sub_self]
    rfl

theorem risAddress_ok (nl : Bool) (l : List Int) : CallOk Try.prog 33 [bts nl l] [] fun r st' => st' = [] ∧ r = vB (decide (1 ≤ l.length ∧ l.length ≤ 16)) := by
  refine callOk_of true 0 Try.func33 rfl rfl (Nat.le_refl _) ?_
  conv => whnf
  repeat (first | (refine rest_vc ?_; conv => whnf) | (refine ⟨by decide, ?_⟩; conv => whnf))
  intro _
  conv => whnf
  repeat (first | (refine rest_vc ?_; conv => whnf) | (refine ⟨by decide, ?_⟩; conv => whnf))
  split <;> rename_i h <;> (conv => whnf) <;> repeat (first | (refine rest_vc ?_; conv => whnf) | (refine ⟨by decide, ?_⟩; conv => whnf))
  · have h := of_decide_eq_true h
    rw [u8s_len] at h
    intro _
    conv => whnf
    repeat (first | (refine rest_vc ?_; conv => whnf) | (refine ⟨by decide, ?_⟩; conv => whnf))
    split <;> rename_i h2 <;> (conv => whnf) <;> repeat (first | (refine rest_vc ?_; conv => whnf) | (refine ⟨by decide, ?_⟩; conv => whnf))
    · have h2 := of_decide_eq_true h2
      rw [u8s_len] at h2
      exact ⟨rfl, congrArg vB (by simp; omega)⟩
    · have h2 := of_decide_eq_false h2
      rw [u8s_len] at h2
      exact ⟨rfl, congrArg vB (by simp; omega)⟩
  · have h := of_decide_eq_false h
    rw [u8s_len] at h
    exact ⟨rfl, congrArg vB (by simp; omega)⟩

/-- All addresses of keepers are bytes. -/
def KBts (keep : List K) : Prop := ∀ x ∈ keep, Bts x.1.2

theorem rkept_ok (nl na : Bool) (keep : List K) (a : List Int) (i : Nat) (ha : a.length ≤ 16) (hi : i < 8 * a.length) (hl : (keep.length : Int) ≤ 2000000) (hk : KBts keep) (hb : Bts a) :
    CallOk Try.prog 51 [.pure (.list 2 nl (keep.map kp)), bts na a, vI .i64 i] [] fun r st' => st' = [] ∧ r = vB (keptB keep a i) := by
  refine callOk_of true 0 Try.func51 rfl rfl (Nat.le_refl _) ?_
  conv => whnf
  repeat (first | (refine rest_vc ?_; conv => whnf) | (refine ⟨by decide, ?_⟩; conv => whnf))
  refine awp_loop (n := 43) (α := Nat) (fun j => j ≤ keep.length ∧ keptB (keep.drop j) a i = keptB keep a i) (fun j => [(0, .pure (.list 2 nl (keep.map kp))), (1, bts na a), (2, vI .i64 i), (7, vI .i64 j)])
    (fun _ => []) (fun j => keep.length - j) 0 (fun _ => 0)
    ⟨Nat.zero_le _, rfl⟩ rfl ⟨rfl, rfl, rfl, rfl, trivial⟩ rfl (fun _ _ => rfl) (fun _ => ⟨Nat.le_refl _, rfl, rfl⟩) ?_
  rintro j ⟨hj, hc⟩
  conv => whnf
  repeat (first | (refine rest_vc ?_; conv => whnf) | (refine ⟨by decide, ?_⟩; conv => whnf))
  intro _
  conv => whnf
  repeat (first | (refine rest_vc ?_; conv => whnf) | (refine ⟨by decide, ?_⟩; conv => whnf))
  split <;> rename_i h <;> (conv => whnf) <;> repeat (first | (refine rest_vc ?_; conv => whnf) | (refine ⟨by decide, ?_⟩; conv => whnf))
  · have h := of_decide_eq_true h
    rw [List.length_map] at h
    refine ⟨by rw [List.length_map]; omega, fun q hq => ?_⟩
    obtain ⟨⟨⟨nx, ax⟩, n⟩, hx, rfl⟩ := map_get hq
    rw [Int.toNat_natCast] at hx
    have hbx : Bts ax := hk _ (List.mem_of_getElem? hx)
    have hst := kept_step keep a i j _ hx
    rw [hst] at hc
    have nxt : (decide (ax.length = a.length) && decide (n > i) && decide (((cmB ax a : Nat) : Int) ≥ (i : Int))) = false → keptB (keep.drop (j + 1)) a i = keptB keep a i := by
      intro hf
      rw [← hc]
      simp only [hf, Bool.false_or]
    conv => whnf
    repeat (first | (refine rest_vc ?_; conv => whnf) | (refine ⟨by decide, ?_⟩; conv => whnf))
    intro _
    conv => whnf
    repeat (first | (refine rest_vc ?_; conv => whnf) | (refine ⟨by decide, ?_⟩; conv => whnf))
    intro _
    conv => whnf
    repeat (first | (refine rest_vc ?_; conv => whnf) | (refine ⟨by decide, ?_⟩; conv => whnf))
    split <;> rename_i h1 <;> (conv => whnf) <;> repeat (first | (refine rest_vc ?_; conv => whnf) | (refine ⟨by decide, ?_⟩; conv => whnf))
    · have h1' : ax.length = a.length := by simp [u8s_len] at h1; omega
      refine ⟨by rw [List.length_map]; omega, fun q hq => ?_⟩
      obtain ⟨y, hy, rfl⟩ := map_get hq
      rw [Int.toNat_natCast, hx] at hy
      cases hy
      conv => whnf
      repeat (first | (refine rest_vc ?_; conv => whnf) | (refine ⟨by decide, ?_⟩; conv => whnf))
      split <;> rename_i h2 <;> (conv => whnf) <;> repeat (first | (refine rest_vc ?_; conv => whnf) | (refine ⟨by decide, ?_⟩; conv => whnf))
      · refine ⟨by rw [List.length_map]; omega, fun q hq => ?_⟩
        obtain ⟨y, hy, rfl⟩ := map_get hq
        rw [Int.toNat_natCast, hx] at hy
        cases hy
        conv => whnf
        repeat (first | (refine rest_vc ?_; conv => whnf) | (refine ⟨by decide, ?_⟩; conv => whnf))
        refine CallIn.to (rcommon_ok nx na ax a h1' (by omega) hbx hb) (k := ?_)
        conv => whnf
        repeat (first | (refine rest_vc ?_; conv => whnf) | (refine ⟨by decide, ?_⟩; conv => whnf))
        split <;> rename_i h3 <;> (conv => whnf) <;> repeat (first | (refine rest_vc ?_; conv => whnf) | (refine ⟨by decide, ?_⟩; conv => whnf))
        · refine ⟨rfl, congrArg vB ?_⟩
          rw [← hc]
          simp only [h1', h2, h3, decide_true, Bool.true_and, Bool.true_or]
        · refine ⟨j + 1, fun _ => 0, ⟨by omega, nxt (by simp only [h3, Bool.and_false])⟩, by omega, rfl, ⟨rfl, rfl, rfl, congrArg (vI .i64) (by rw [w64 (by omega) (by omega)]; omega), trivial⟩, rfl, fun _ _ => rfl⟩
      · refine ⟨j + 1, fun _ => 0, ⟨by omega, nxt (by simp only [h2, Bool.and_false, Bool.false_and])⟩, by omega, rfl, ⟨rfl, rfl, rfl, congrArg (vI .i64) (by rw [w64 (by omega) (by omega)]; omega), trivial⟩, rfl, fun _ _ => rfl⟩
    · have h1' : ¬ ax.length = a.length := by simp [u8s_len] at h1; omega
      refine ⟨j + 1, fun _ => 0, ⟨by omega, nxt (by simp only [h1', decide_false, Bool.false_and])⟩, by omega, rfl, ⟨rfl, rfl, rfl, congrArg (vI .i64) (by rw [w64 (by omega) (by omega)]; omega), trivial⟩, rfl, fun _ _ => rfl⟩
  · have h := of_decide_eq_false h
    rw [List.length_map] at h
    refine ⟨rfl, congrArg vB ?_⟩
    rw [← hc, show j = keep.length by omega, List.drop_length]
    rfl

def mskI (n : Nat) : Int := iAnd .i64 (iShr .i64 65280 n) 255
theorem mask_ok (n : Nat) : CallOk Try.prog 52 [vI .i64 n] [] fun r st' => st' = [] ∧ r = vI .i64 (mskI n) := by
  refine callOk_of true 0 Try.func52 rfl rfl (Nat.le_refl _) ?_
  conv => whnf
  repeat (first | (refine rest_vc ?_; conv => whnf) | (refine ⟨by decide, ?_⟩; conv => whnf))
  refine ⟨by omega, ?_⟩
  conv => whnf
  repeat (first | (refine rest_vc ?_; conv => whnf) | (refine ⟨by decide, ?_⟩; conv => whnf))
  exact ⟨rfl, rfl⟩

/-- The byte at j of the front of i bits. -/
def fbyte (a : List Int) (i j : Nat) : Int := if 8 * j + 8 > i then iAnd .u8 (a.getD j 0) (IntKind.u8.wrap (mskI (min 8 (i - 8 * j)))) else a.getD j 0

theorem msk_bit : ∀ n : Fin 9, ∀ t : Fin 8, (BitVec.ofInt 8 (IntKind.u8.wrap (mskI n.val))).getLsbD t.val = decide (8 ≤ t.val + n.val) := by decide +kernel

theorem fbyte_bit {a : List Int} (ha : Bts a) (i j t : Nat) (ht : t < 8) : fbyte a i j / 2 ^ t % 2 = if i ≤ 8 * j + (7 - t) then 0 else (a.getD j 0) / 2 ^ t % 2 := by
  have hr := getD_rng ha j
  unfold fbyte
  split
  · rename_i h
    have e : iAnd .u8 (a.getD j 0) (IntKind.u8.wrap (mskI (min 8 (i - 8 * j)))) = ((BitVec.ofInt 8 (a.getD j 0) &&& BitVec.ofInt 8 (IntKind.u8.wrap (mskI (min 8 (i - 8 * j))))).toNat : Int) := wrap_bv _
    have hm := msk_bit ⟨min 8 (i - 8 * j), by omega⟩ ⟨t, ht⟩
    simp only at hm
    rw [e, bv_bit, BitVec.getLsbD_and, hm, byte_bit hr]
    by_cases h8 : 8 ≤ t + min 8 (i - 8 * j)
    · rw [decide_eq_true h8, Bool.and_true, if_neg (by omega)]
    · rw [decide_eq_false h8, Bool.and_false, if_pos (by omega)]
      rfl
  · rw [if_neg (by omega)]
theorem fbyte_rng {a : List Int} (ha : Bts a) (i j : Nat) : 0 ≤ fbyte a i j ∧ fbyte a i j < 256 := by
  unfold fbyte
  split
  · have e : iAnd .u8 (a.getD j 0) (IntKind.u8.wrap (mskI (min 8 (i - 8 * j)))) = ((BitVec.ofInt 8 (a.getD j 0) &&& BitVec.ofInt 8 (IntKind.u8.wrap (mskI (min 8 (i - 8 * j))))).toNat : Int) := wrap_bv _
    have := (BitVec.ofInt 8 (a.getD j 0) &&& BitVec.ofInt 8 (IntKind.u8.wrap (mskI (min 8 (i - 8 * j))))).isLt
    rw [e]
    omega
  · exact getD_rng ha j

theorem front_bytes {a : List Int} (ha : Bts a) {i : Nat} (hi : i ≤ 8 * a.length) : (List.range a.length).map (fbyte a i) = frontI a i := by
  obtain ⟨h1, h2⟩ := frG_spec (8 * a.length - i) i a ha (by omega)
  unfold frontI
  refine bits_ext (fun x hx => ?_) h1 (by simp [frG_len]) fun p hp => ?_
  · obtain ⟨j, _, rfl⟩ := List.mem_map.1 hx
    exact fbyte_rng ha i j
  · simp only [List.length_map, List.length_range] at hp
    rw [h2, bitI_nat, bitI_nat]
    have e : ((List.range a.length).map (fbyte a i)).getD (p / 8) 0 = fbyte a i (p / 8) := by
      rw [List.getD_eq_getElem?_getD, List.getElem?_map, List.getElem?_range (by omega)]
      rfl
    rw [e, fbyte_bit ha i (p / 8) (7 - p % 8) (by omega)]
    by_cases h : i ≤ p
    · rw [if_pos (by omega), if_pos (by omega)]
    · rw [if_neg (by omega), if_neg (by omega)]

theorem tagI_pos {k b : List Int} {t0 : Int} {tr : List Int} (h : tagI k b = t0 :: tr) : 0 ≤ t0 := by
  have hm : t0 ∈ tagI k b := by rw [h]; simp
  unfold tagI outI putI at hm
  obtain ⟨j, _, rfl⟩ := List.mem_map.1 hm
  rw [IntKind.wrap_u8]
  omega

theorem rturns_ok (nk na nl : Bool) (k a : List Int) (keep : List K) (i : Nat) (hk : k.length = 16) (ha : a.length ≤ 16) (hi : i < 8 * a.length) (hl : (keep.length : Int) ≤ 2000000) (hkb : KBts keep) (hb : Bts a) :
    CallOk Try.prog 40 [bts nk k, .pure (.list 2 nl (keep.map kp)), bts na a, vI .i64 i] [] fun r st' => st' = [] ∧ r = vB (turnB k keep a i) := by
  have ck := rkept_ok nl na keep a i ha hi hl hkb hb
  have hfl : (frontI a i).length = a.length := frG_len _ _ _
  have hfb := front_bytes hb (i := i) (by omega)
  have htl : ((([IntKind.u8.wrap a.length, IntKind.u8.wrap i] ++ frontI a i : List Int).length : Nat) : Int) ≤ 100000 := by simp [hfl]; omega
  have cT := rTag_ok nk false k ([IntKind.u8.wrap a.length, IntKind.u8.wrap i] ++ frontI a i) hk htl
  have cE : keptB keep a i = false → turnB k keep a i = decide ((tagI k ([IntKind.u8.wrap a.length, IntKind.u8.wrap i] ++ frontI a i)).getD 0 0 % 2 = 1) := by
    intro hke
    unfold turnB
    rw [hke, if_neg (by simp)]
  have cK : keptB keep a i = true → turnB k keep a i = false := by
    intro hke
    unfold turnB
    rw [hke, if_pos rfl]
  obtain ⟨t0, tr, ht⟩ := tagI_get k ([IntKind.u8.wrap a.length, IntKind.u8.wrap i] ++ frontI a i)
  have hpos := tagI_pos ht
  rw [ht] at cT cE
  rw [← hfb] at cT hfl
  clear ht hfb htl
  refine callOk_of true 0 Try.func40 rfl rfl (Nat.le_refl _) ?_
  conv => whnf
  repeat (first | (refine rest_vc ?_; conv => whnf) | (refine ⟨by decide, ?_⟩; conv => whnf))
  refine CallIn.tob (ck) (k := ?_)
  intro b hb
  cases b <;> (conv => whnf) <;> repeat (first | (refine rest_vc ?_; conv => whnf) | (refine ⟨by decide, ?_⟩; conv => whnf))
  · have cE := cE hb
    clear ck cK
    intro _
    conv => whnf
    repeat (first | (refine rest_vc ?_; conv => whnf) | (refine ⟨by decide, ?_⟩; conv => whnf))
    refine awp_loop (n := 64) (α := Nat) (fun j => j ≤ a.length) (fun j => [(0, bts nk k), (1, .pure (.list 2 nl (keep.map kp))), (2, bts na a), (3, vI .i64 i), (9, .vref 0 0), (10, vI .i64 j)])
      (fun j => [.vec 0 5 1 false (u8s ([IntKind.u8.wrap a.length, IntKind.u8.wrap i] ++ (List.range j).map (fbyte a i)))]) (fun j => a.length - j) 0 (fun _ => 0)
      (Nat.zero_le _) rfl ⟨rfl, rfl, rfl, rfl, rfl, rfl, trivial⟩ (congrArg (fun n : Nat => [Ob.vec 0 5 1 false [PV.val (.int .u8 (IntKind.u8.wrap (n : Int))), PV.val (.int .u8 (IntKind.u8.wrap (i : Int)))]]) (u8s_len a)) (fun _ _ => rfl) (fun _ => ⟨Nat.zero_le _, rfl, rfl⟩) ?_
    intro j hj
    conv => whnf
    repeat (first | (refine rest_vc ?_; conv => whnf) | (refine ⟨by decide, ?_⟩; conv => whnf))
    intro _
    conv => whnf
    repeat (first | (refine rest_vc ?_; conv => whnf) | (refine ⟨by decide, ?_⟩; conv => whnf))
    have go : ∀ v : Int, v = fbyte a i j → [Ob.vec (0 + 1) 5 1 (false && false) (u8s ([IntKind.u8.wrap a.length, IntKind.u8.wrap i] ++ (List.range j).map (fbyte a i)) ++ [PV.val (.int .u8 v)])] = upSt (fun _ => 1) 0 [.vec 0 5 1 false (u8s ([IntKind.u8.wrap a.length, IntKind.u8.wrap i] ++ (List.range (j + 1)).map (fbyte a i)))] := by
      intro v hv
      rw [hv, append_byte, List.append_assoc, List.range_succ, List.map_append, List.map_cons, List.map_nil]
      rfl
    split <;> rename_i h <;> (conv => whnf) <;> repeat (refine ⟨by decide, ?_⟩; conv => whnf)
    · refine rest_vc ?_
      conv => whnf
      repeat (first | (refine rest_vc ?_; conv => whnf) | (refine ⟨by decide, ?_⟩; conv => whnf))
      have h := of_decide_eq_true h
      rw [u8s_len] at h
      refine ⟨by rw [u8s_len]; omega, fun p hp => ?_⟩
      obtain ⟨rfl, hlt⟩ := u8s_get hp
      have e1 : IntKind.i64.wrap (8 * (j : Int)) = ((8 * j : Nat) : Int) := by rw [w64 (by omega) (by omega)]; omega
      have e2 : IntKind.i64.wrap (IntKind.i64.wrap (8 * (j : Int)) + 8) = ((8 * j + 8 : Nat) : Int) := by rw [e1, w64 (by omega) (by omega)]; omega
      conv => whnf
      repeat (first | (refine rest_vc ?_; conv => whnf) | (refine ⟨by decide, ?_⟩; conv => whnf))
      split <;> rename_i h2 <;> (conv => whnf) <;> repeat (first | (refine rest_vc ?_; conv => whnf) | (refine ⟨by decide, ?_⟩; conv => whnf))
      · have h2 := of_decide_eq_true h2
        rw [e2] at h2
        refine CallIn.to (mask_ok (min 8 (i - 8 * j))) (ha := by exact congrArg (fun n : Int => [vI .i64 n]) (by rw [e1, w64 (by omega) (by omega)]; omega)) (hf := by first | exact .inr rfl | exact .inl (Eq.symm (by exact congrArg (fun n : Int => [vI .i64 n]) (by rw [e1, w64 (by omega) (by omega)]; omega)))) (k := ?_)
        conv => whnf
        repeat (first | (refine rest_vc ?_; conv => whnf) | (refine ⟨by decide, ?_⟩; conv => whnf))
        refine ⟨by (show (_ + 1) * 1 ≤ 140737488355328; rw [u8s_len]; simp; omega), ?_⟩
        conv => whnf
        repeat (first | (refine rest_vc ?_; conv => whnf) | (refine ⟨by decide, ?_⟩; conv => whnf))
        refine ⟨j + 1, fun _ => 1, by omega, by omega, rfl, ⟨rfl, rfl, rfl, rfl, rfl, congrArg (vI .i64) (by rw [w64 (by omega) (by omega)]; omega), trivial⟩, ?_, fun o h => by cases h⟩
        refine go _ ?_
        unfold fbyte
        rw [if_pos (by omega), Int.toNat_natCast]
      · have h2 := of_decide_eq_false h2
        rw [e2] at h2
        refine ⟨by (show (_ + 1) * 1 ≤ 140737488355328; rw [u8s_len]; simp; omega), ?_⟩
        conv => whnf
        repeat (first | (refine rest_vc ?_; conv => whnf) | (refine ⟨by decide, ?_⟩; conv => whnf))
        refine ⟨j + 1, fun _ => 1, by omega, by omega, rfl, ⟨rfl, rfl, rfl, rfl, rfl, congrArg (vI .i64) (by rw [w64 (by omega) (by omega)]; omega), trivial⟩, ?_, fun o h => by cases h⟩
        refine go _ ?_
        unfold fbyte
        rw [if_neg (by omega), Int.toNat_natCast]
    · have h := of_decide_eq_false h
      rw [u8s_len] at h
      have : j = a.length := by omega
      subst this
      refine rest_frz 0 rfl ?_
      refine rest_vc ?_
      conv => whnf
      repeat (first | (refine rest_vc ?_; conv => whnf) | (refine ⟨by decide, ?_⟩; conv => whnf))
      refine CallIn.to (cT) (k := ?_)
      conv => whnf
      repeat (first | (refine rest_vc ?_; conv => whnf) | (refine ⟨by decide, ?_⟩; conv => whnf))
      refine ⟨⟨by decide, by rw [u8s_len, List.length_cons]; omega⟩, fun q hq => ?_⟩
      obtain ⟨rfl, hlt⟩ := u8s_get hq
      conv => whnf
      repeat (first | (refine rest_vc ?_; conv => whnf) | (refine ⟨by decide, ?_⟩; conv => whnf))
      have e3 : t0.tmod 2 = t0 % 2 := Int.tmod_eq_emod_of_nonneg hpos
      split <;> rename_i h1 <;> (conv => whnf) <;> repeat (first | (refine rest_vc ?_; conv => whnf) | (refine ⟨by decide, ?_⟩; conv => whnf))
      · refine ⟨rfl, congrArg vB ?_⟩
        rw [cE]
        have h1 : t0.tmod 2 = 1 := beq_iff_eq.1 h1
        rw [e3] at h1
        exact (decide_eq_true h1).symm
      · refine ⟨rfl, congrArg vB ?_⟩
        rw [cE]
        have h1 : ¬ t0.tmod 2 = 1 := beq_eq_false_iff_ne.1 h1
        rw [e3] at h1
        exact (decide_eq_false h1).symm
  · refine ⟨rfl, congrArg vB (cK hb).symm⟩

def unG (k : List Int) (keep : List K) : Nat → Nat → List Int → List Int
  | 0, _, o => o
  | m + 1, i, o => unG k keep m (i + 1) (if turnB k keep o i then flipI o i else o)
def unmapI (k : List Int) (keep : List K) (a : List Int) : List Int := unG k keep (8 * a.length) 0 a

/-- Forth or back. -/
def rmG (k : List Int) (keep : List K) (a : List Int) (back : Bool) : Nat → Nat → List Int → List Int
  | 0, _, o => o
  | m + 1, i, o => rmG k keep a back m (i + 1) (if turnB k keep (if back then o else a) i then flipI o i else o)
theorem rmG_forth (k : List Int) (keep : List K) (a : List Int) : ∀ (m i : Nat) (o : List Int), rmG k keep a false m i o = mpG k keep a m i o
  | 0, i, o => rfl
  | m + 1, i, o => rmG_forth k keep a m (i + 1) _
theorem rmG_back (k : List Int) (keep : List K) (a : List Int) : ∀ (m i : Nat) (o : List Int), rmG k keep a true m i o = unG k keep m i o
  | 0, i, o => rfl
  | m + 1, i, o => rmG_back k keep a m (i + 1) _

theorem rmapped_ok (nk nl na back : Bool) (k a : List Int) (keep : List K) (hk : k.length = 16) (ha : a.length ≤ 16) (ha1 : 1 ≤ a.length) (hl : (keep.length : Int) ≤ 2000000) (hkb : KBts keep) (hb : Bts a) :
    CallOk Try.prog 24 [bts nk k, .pure (.list 2 nl (keep.map kp)), bts na a, vB back] [] fun r st' => st' = [] ∧ r = bts false (rmG k keep a back (8 * a.length) 0 a) := by
  have hemp : (u8s a).isEmpty = false := by cases a with | nil => simp at ha1 | cons x l => rfl
  refine callOk_of true 0 Try.func24 rfl rfl (Nat.le_refl _) ?_
  conv => whnf
  repeat (first | (refine rest_vc ?_; conv => whnf) | (refine ⟨by decide, ?_⟩; conv => whnf))
  refine ⟨by (show (u8s a).length * 1 ≤ 140737488355328; rw [u8s_len]; omega), ?_⟩
  conv => whnf
  repeat (first | (refine rest_vc ?_; conv => whnf) | (refine ⟨by decide, ?_⟩; conv => whnf))
  refine awp_loop2 (n := 41) (α := Nat) (β := List Int) (fun i o => i ≤ 8 * a.length ∧ o.length = a.length ∧ Bts o ∧ rmG k keep a back (8 * a.length - i) i o = rmG k keep a back (8 * a.length) 0 a)
    (fun i o => [(0, bts nk k), (1, .pure (.list 2 nl (keep.map kp))), (2, bts na a), (3, vB back), (9, .vref 0 0), (10, vI .i64 i)])
    (fun i o => [.vec 0 5 1 false (u8s o)]) (fun i _ => 8 * a.length - i) 0 a (fun _ => 0)
    ⟨Nat.zero_le _, rfl, hb, rfl⟩ rfl ⟨rfl, rfl, rfl, rfl, rfl, rfl, trivial⟩ (congrArg (fun b => [Ob.vec 0 5 1 b (u8s a)]) hemp) (fun _ _ => rfl) (fun _ _ => ⟨Nat.zero_le _, rfl, rfl⟩) ?_
  rintro i o ⟨hi, ho, hob, hc⟩
  conv => whnf
  repeat (first | (refine rest_vc ?_; conv => whnf) | (refine ⟨by decide, ?_⟩; conv => whnf))
  intro _
  conv => whnf
  repeat (first | (refine rest_vc ?_; conv => whnf) | (refine ⟨by decide, ?_⟩; conv => whnf))
  have hstep : i < 8 * a.length → rmG k keep a back (8 * a.length - (i + 1)) (i + 1) (if turnB k keep (if back then o else a) i then flipI o i else o) = rmG k keep a back (8 * a.length) 0 a := by
    intro h
    rw [← hc, show 8 * a.length - i = (8 * a.length - (i + 1)) + 1 by omega]
    rfl
  split <;> rename_i h <;> (conv => whnf) <;> repeat (first | (refine rest_vc ?_; conv => whnf) | (refine ⟨by decide, ?_⟩; conv => whnf))
  · have h := of_decide_eq_true h
    rw [u8s_len, w64 (by omega) (by omega)] at h
    have hs := hstep (by omega)
    have e1 : IntKind.i64.wrap ((i : Int).tdiv 8) = (i : Int) / 8 := by rw [Int.tdiv_eq_ediv_of_nonneg (by omega), w64 (by omega) (by omega)]
    have e2 : IntKind.i64.wrap (7 - (i : Int).tmod 8) = 7 - (i : Int) % 8 := by rw [Int.tmod_eq_emod_of_nonneg (by omega), w64 (by omega) (by omega)]
    cases back with
    | true =>
      conv => whnf
      repeat (first | (refine rest_vc ?_; conv => whnf) | (refine ⟨by decide, ?_⟩; conv => whnf))
      refine CallIn.tob (rturns_ok nk false nl k o keep i hk (by omega) (by omega) hl hkb hob) (k := ?_)
      intro b ht
      cases b <;> (conv => whnf) <;> repeat (first | (refine rest_vc ?_; conv => whnf) | (refine ⟨by decide, ?_⟩; conv => whnf))
      · refine ⟨i + 1, o, fun _ => 0, ⟨by omega, ho, hob, ?_⟩, by omega, rfl, ⟨rfl, rfl, rfl, rfl, rfl, congrArg (vI .i64) (by rw [w64 (by omega) (by omega)]; omega), trivial⟩, rfl, fun _ _ => rfl⟩
        rw [show (if (true : Bool) = true then o else a) = o from rfl, ht, if_neg (by simp)] at hs
        exact hs
      · refine hand_draw [11] (fun _ _ => True) rfl (by kernel_rfl) rfl ?_
        conv => whnf
        repeat (first | (refine rest_vc ?_; conv => whnf) | (refine ⟨by decide, ?_⟩; conv => whnf))
        refine ⟨by rw [e1, u8s_len]; omega, ?_⟩
        conv => whnf
        repeat (first | (refine rest_vc ?_; conv => whnf) | (refine ⟨by decide, ?_⟩; conv => whnf))
        refine ⟨by rw [e1, u8s_len]; omega, fun p hp => ?_⟩
        obtain ⟨rfl, hlt⟩ := u8s_get hp
        conv => whnf
        repeat (first | (refine rest_vc ?_; conv => whnf) | (refine ⟨by decide, ?_⟩; conv => whnf))
        refine ⟨by (rw [e2]; omega), ?_⟩
        conv => whnf
        repeat (first | (refine rest_vc ?_; conv => whnf) | (refine ⟨by decide, ?_⟩; conv => whnf))
        refine ⟨by rw [e1, u8s_len]; omega, ?_⟩
        conv => whnf
        repeat (first | (refine rest_vc ?_; conv => whnf) | (refine ⟨by decide, ?_⟩; conv => whnf))
        refine ⟨by rw [e1, u8s_len]; omega, fun p hp => ?_⟩
        obtain ⟨rfl, hlt⟩ := u8s_get hp
        conv => whnf
        repeat (first | (refine rest_vc ?_; conv => whnf) | (refine ⟨by decide, ?_⟩; conv => whnf))
        rw [show (if (true : Bool) = true then o else a) = o from rfl, ht, if_pos rfl] at hs
        have ev : u8s (flipI o i) = (u8s o).set (IntKind.i64.wrap ((i : Int).tdiv 8)).toNat (PV.val (.int .u8 (iXor .u8 (o.getD (IntKind.i64.wrap ((i : Int).tdiv 8)).toNat 0) (iShl .u8 1 (IntKind.i64.wrap (7 - (i : Int).tmod 8)))))) := by
          rw [e1, e2]
          simp only [u8s, flipI, List.map_set]
        refine ⟨i + 1, flipI o i, fun _ => 0, ⟨by omega, by rw [flipI_len]; exact ho, flip_bts hob i, ?_⟩, by omega, rfl, ⟨rfl, rfl, rfl, rfl, rfl, congrArg (vI .i64) (by rw [w64 (by omega) (by omega)]; omega), trivial⟩, ?_, fun _ _ => rfl⟩
        · exact hs
        · show [Ob.vec 0 5 1 false _] = [Ob.vec 0 5 1 false _]
          rw [ev]
          rfl
    | false =>
      conv => whnf
      repeat (first | (refine rest_vc ?_; conv => whnf) | (refine ⟨by decide, ?_⟩; conv => whnf))
      refine CallIn.tob (rturns_ok nk na nl k a keep i hk ha (by omega) hl hkb hb) (k := ?_)
      intro b ht
      cases b <;> (conv => whnf) <;> repeat (first | (refine rest_vc ?_; conv => whnf) | (refine ⟨by decide, ?_⟩; conv => whnf))
      · refine ⟨i + 1, o, fun _ => 0, ⟨by omega, ho, hob, ?_⟩, by omega, rfl, ⟨rfl, rfl, rfl, rfl, rfl, congrArg (vI .i64) (by rw [w64 (by omega) (by omega)]; omega), trivial⟩, rfl, fun _ _ => rfl⟩
        rw [show (if (false : Bool) = true then o else a) = a from rfl, ht, if_neg (by simp)] at hs
        exact hs
      · refine hand_draw [11] (fun _ _ => True) rfl (by kernel_rfl) rfl ?_
        conv => whnf
        repeat (first | (refine rest_vc ?_; conv => whnf) | (refine ⟨by decide, ?_⟩; conv => whnf))
        refine ⟨by rw [e1, u8s_len]; omega, ?_⟩
        conv => whnf
        repeat (first | (refine rest_vc ?_; conv => whnf) | (refine ⟨by decide, ?_⟩; conv => whnf))
        refine ⟨by rw [e1, u8s_len]; omega, fun p hp => ?_⟩
        obtain ⟨rfl, hlt⟩ := u8s_get hp
        conv => whnf
        repeat (first | (refine rest_vc ?_; conv => whnf) | (refine ⟨by decide, ?_⟩; conv => whnf))
        refine ⟨by (rw [e2]; omega), ?_⟩
        conv => whnf
        repeat (first | (refine rest_vc ?_; conv => whnf) | (refine ⟨by decide, ?_⟩; conv => whnf))
        refine ⟨by rw [e1, u8s_len]; omega, ?_⟩
        conv => whnf
        repeat (first | (refine rest_vc ?_; conv => whnf) | (refine ⟨by decide, ?_⟩; conv => whnf))
        refine ⟨by rw [e1, u8s_len]; omega, fun p hp => ?_⟩
        obtain ⟨rfl, hlt⟩ := u8s_get hp
        conv => whnf
        repeat (first | (refine rest_vc ?_; conv => whnf) | (refine ⟨by decide, ?_⟩; conv => whnf))
        rw [show (if (false : Bool) = true then o else a) = a from rfl, ht, if_pos rfl] at hs
        have ev : u8s (flipI o i) = (u8s o).set (IntKind.i64.wrap ((i : Int).tdiv 8)).toNat (PV.val (.int .u8 (iXor .u8 (o.getD (IntKind.i64.wrap ((i : Int).tdiv 8)).toNat 0) (iShl .u8 1 (IntKind.i64.wrap (7 - (i : Int).tmod 8)))))) := by
          rw [e1, e2]
          simp only [u8s, flipI, List.map_set]
        refine ⟨i + 1, flipI o i, fun _ => 0, ⟨by omega, by rw [flipI_len]; exact ho, flip_bts hob i, ?_⟩, by omega, rfl, ⟨rfl, rfl, rfl, rfl, rfl, congrArg (vI .i64) (by rw [w64 (by omega) (by omega)]; omega), trivial⟩, ?_, fun _ _ => rfl⟩
        · exact hs
        · show [Ob.vec 0 5 1 false _] = [Ob.vec 0 5 1 false _]
          rw [ev]
          rfl
  · have h := of_decide_eq_false h
    rw [u8s_len, w64 (by omega) (by omega)] at h
    have : i = 8 * a.length := by omega
    subst this
    rw [Nat.sub_self] at hc
    have hc : o = rmG k keep a back (8 * a.length) 0 a := hc
    refine ⟨rfl, ?_⟩
    rw [← hc]
    rfl
end Go.Proofs.Ytlnmkolppgkglaa
