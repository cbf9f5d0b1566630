/- The plain law: addresses that are mapped have as many bits in common as before. -/
import Derived.Test.Ytlnmkolppgkglaa27H
set_option linter.all false
set_option maxHeartbeats 4000000
set_option maxRecDepth 100000
namespace Go.Proofs.Ytlnmkolppgkglaa
open Go Go.RowKit Go.Sy Go.Proofs

def Bts (l : List Int) : Prop := ∀ x ∈ l, 0 ≤ x ∧ x < 256

theorem bitI_nat (l : List Int) (i : Nat) : bitI l i = (l.getD (i / 8) 0) / 2 ^ (7 - i % 8) % 2 := by
  unfold bitI
  have e1 : ((i : Int) / 8).toNat = i / 8 := by omega
  have e2 : (7 - (i : Int) % 8).toNat = 7 - i % 8 := by omega
  rw [e1, e2]

theorem bv_bit (v : BitVec 8) (t : Nat) : ((v.toNat : Int)) / 2 ^ t % 2 = ((v.getLsbD t).toNat : Int) := by
  rw [← BitVec.testBit_toNat, Nat.toNat_testBit]
  norm_cast

theorem bv_of {x : Int} (h : 0 ≤ x ∧ x < 256) : ((BitVec.ofInt 8 x).toNat : Int) = x := by
  rw [BitVec.toNat_ofInt]
  omega

theorem byte_bit {x : Int} (h : 0 ≤ x ∧ x < 256) (t : Nat) : x / 2 ^ t % 2 = (((BitVec.ofInt 8 x).getLsbD t).toNat : Int) := by
  rw [← bv_bit, bv_of h]

theorem wrap_bv (v : BitVec 8) : IntKind.u8.wrap (v.toNat : Int) = v.toNat := by
  rw [IntKind.wrap_u8]
  have := v.isLt
  omega

theorem one_bit : ∀ s : Fin 8, ∀ t : Fin 8, (BitVec.ofInt 8 (iShl .u8 1 (s.val : Int))).getLsbD t.val = decide (t = s) := by decide

theorem xor_rng (x y : Int) : 0 ≤ iXor .u8 x y ∧ iXor .u8 x y < 256 := by
  unfold iXor
  have := (BitVec.ofInt 8 x ^^^ BitVec.ofInt 8 y).isLt
  have e : iXor .u8 x y = ((BitVec.ofInt 8 x ^^^ BitVec.ofInt 8 y).toNat : Int) := wrap_bv _
  unfold iXor at e
  rw [e]
  omega
theorem clr_rng (x y : Int) : 0 ≤ iAndNot .u8 x y ∧ iAndNot .u8 x y < 256 := by
  have := (BitVec.ofInt 8 x &&& ~~~(BitVec.ofInt 8 y)).isLt
  have e : iAndNot .u8 x y = ((BitVec.ofInt 8 x &&& ~~~(BitVec.ofInt 8 y)).toNat : Int) := wrap_bv _
  rw [e]
  omega

theorem xor_bit {x : Int} (h : 0 ≤ x ∧ x < 256) {s t : Nat} (hs : s < 8) (ht : t < 8) : iXor .u8 x (iShl .u8 1 (s : Int)) / 2 ^ t % 2 = if t = s then 1 - x / 2 ^ t % 2 else x / 2 ^ t % 2 := by
  have e : iXor .u8 x (iShl .u8 1 (s : Int)) = ((BitVec.ofInt 8 x ^^^ BitVec.ofInt 8 (iShl .u8 1 (s : Int))).toNat : Int) := wrap_bv _
  have h1 := one_bit ⟨s, hs⟩ ⟨t, ht⟩
  simp only [Fin.mk.injEq] at h1
  rw [e, bv_bit, BitVec.getLsbD_xor, h1, byte_bit h]
  by_cases hts : t = s
  · rw [if_pos hts, decide_eq_true hts]
    cases (BitVec.ofInt 8 x).getLsbD t <;> rfl
  · rw [if_neg hts, decide_eq_false hts, Bool.xor_false]

theorem clr_bit {x : Int} (h : 0 ≤ x ∧ x < 256) {s t : Nat} (hs : s < 8) (ht : t < 8) : iAndNot .u8 x (iShl .u8 1 (s : Int)) / 2 ^ t % 2 = if t = s then 0 else x / 2 ^ t % 2 := by
  have e : iAndNot .u8 x (iShl .u8 1 (s : Int)) = ((BitVec.ofInt 8 x &&& ~~~(BitVec.ofInt 8 (iShl .u8 1 (s : Int)))).toNat : Int) := wrap_bv _
  have h1 := one_bit ⟨s, hs⟩ ⟨t, ht⟩
  simp only [Fin.mk.injEq] at h1
  rw [e, bv_bit, BitVec.getLsbD_and, BitVec.getLsbD_not, h1, byte_bit h]
  by_cases hts : t = s
  · rw [if_pos hts, decide_eq_true hts]
    simp
  · rw [if_neg hts, decide_eq_false hts]
    simp [ht]

theorem getD_rng {l : List Int} (h : Bts l) (n : Nat) : 0 ≤ l.getD n 0 ∧ l.getD n 0 < 256 := by
  rw [List.getD_eq_getElem?_getD]
  cases hn : l[n]? with
  | none => simp
  | some x => exact h x (List.mem_of_getElem? hn)

theorem set_bts {l : List Int} (h : Bts l) (n : Nat) {x : Int} (hx : 0 ≤ x ∧ x < 256) : Bts (l.set n x) := by
  intro y hy
  rcases List.mem_or_eq_of_mem_set hy with hy | rfl
  · exact h y hy
  · exact hx

theorem nat_idx (i : Nat) : ((i : Int) / 8).toNat = i / 8 := by omega
theorem nat_bit (i : Nat) : (7 - (i : Int) % 8) = ((7 - i % 8 : Nat) : Int) := by omega

theorem flip_bts {l : List Int} (h : Bts l) (i : Nat) : Bts (flipI l i) := set_bts h _ (xor_rng _ _)
theorem clr_bts {l : List Int} (h : Bts l) (i : Nat) : Bts (clrI l i) := set_bts h _ (clr_rng _ _)

theorem getD_set_self {l : List Int} {n : Nat} (x : Int) (h : n < l.length) : (l.set n x).getD n 0 = x := by simp [List.getD_eq_getElem?_getD, h]
theorem getD_set_other {l : List Int} {n m : Nat} (x : Int) (h : n ≠ m) : (l.set n x).getD m 0 = l.getD m 0 := by simp [List.getD_eq_getElem?_getD, List.getElem?_set_ne h]

theorem flip_bit {l : List Int} (h : Bts l) {i j : Nat} (hi : i < 8 * l.length) : bitI (flipI l i) j = if j = i then 1 - bitI l j else bitI l j := by
  rw [bitI_nat, bitI_nat]
  unfold flipI
  rw [nat_idx, nat_bit]
  by_cases hb : i / 8 = j / 8
  · rw [← hb, getD_set_self _ (by omega), xor_bit (getD_rng h _) (by omega) (by omega)]
    by_cases hij : j = i
    · subst hij; rw [if_pos rfl, if_pos rfl]
    · rw [if_neg hij, if_neg (by omega)]
  · rw [getD_set_other _ hb, if_neg (by rintro rfl; exact hb rfl)]

theorem clrI_bit {l : List Int} (h : Bts l) {i j : Nat} (hi : i < 8 * l.length) : bitI (clrI l i) j = if j = i then 0 else bitI l j := by
  rw [bitI_nat, bitI_nat]
  unfold clrI
  rw [nat_idx, nat_bit]
  by_cases hb : i / 8 = j / 8
  · rw [← hb, getD_set_self _ (by omega), clr_bit (getD_rng h _) (by omega) (by omega)]
    by_cases hij : j = i
    · subst hij; rw [if_pos rfl, if_pos rfl]
    · rw [if_neg hij, if_neg (by omega)]
  · rw [getD_set_other _ hb, if_neg (by rintro rfl; exact hb rfl)]

theorem frG_spec : ∀ (m k : Nat) (l : List Int), Bts l → k + m ≤ 8 * l.length → Bts (frG m k l) ∧ ∀ j : Nat, bitI (frG m k l) j = if k ≤ j ∧ j < k + m then 0 else bitI l j
  | 0, k, l, h, hk => ⟨h, fun j => by rw [if_neg (by omega)]; rfl⟩
  | m + 1, k, l, h, hk => by
    obtain ⟨h1, h2⟩ := frG_spec m (k + 1) (clrI l k) (clr_bts h k) (by rw [clrI_len]; omega)
    refine ⟨h1, fun j => ?_⟩
    show bitI (frG m (k + 1) (clrI l k)) j = _
    rw [h2, clrI_bit h (by omega)]
    by_cases hj : j = k
    · rw [if_neg (by omega), if_pos hj, if_pos (by omega)]
    · rw [if_neg hj]
      by_cases hj2 : k + 1 ≤ j ∧ j < k + 1 + m
      · rw [if_pos hj2, if_pos (by omega)]
      · rw [if_neg hj2, if_neg (by omega)]

/-- Bytes are their bits. -/
theorem bits_ext {l l' : List Int} (h : Bts l) (h' : Bts l') (hl : l.length = l'.length) (hb : ∀ j : Nat, j < 8 * l.length → bitI l j = bitI l' j) : l = l' := by
  refine List.ext_getElem hl fun n h1 h2 => ?_
  have hx := h _ (List.getElem_mem h1)
  have hy := h' _ (List.getElem_mem h2)
  have e1 : l.getD n 0 = l[n] := by simp [List.getD_eq_getElem?_getD, h1]
  have e2 : l'.getD n 0 = l'[n] := by simp [List.getD_eq_getElem?_getD, h2]
  rw [← bv_of hx, ← bv_of hy]
  refine congrArg (fun v : BitVec 8 => (v.toNat : Int)) ?_
  refine BitVec.eq_of_getLsbD_eq fun t ht => ?_
  have := hb (8 * n + (7 - t)) (by omega)
  rw [bitI_nat, bitI_nat, show (8 * n + (7 - t)) / 8 = n by omega, show 7 - (8 * n + (7 - t)) % 8 = t by omega, e1, e2, byte_bit hx, byte_bit hy] at this
  revert this
  cases (BitVec.ofInt 8 l[n]).getLsbD t <;> cases (BitVec.ofInt 8 l'[n]).getLsbD t <;> simp

theorem front_same {a b : List Int} (ha : Bts a) (hb : Bts b) (hl : a.length = b.length) {i : Nat} (hi : i ≤ 8 * a.length) (h : ∀ j : Nat, j < i → bitI a j = bitI b j) : frontI a i = frontI b i := by
  obtain ⟨h1, h2⟩ := frG_spec (8 * a.length - i) i a ha (by omega)
  obtain ⟨h3, h4⟩ := frG_spec (8 * b.length - i) i b hb (by omega)
  unfold frontI
  refine bits_ext h1 h3 (by rw [frG_len, frG_len]; exact hl) fun j hj => ?_
  rw [frG_len] at hj
  rw [h2, h4]
  by_cases hji : i ≤ j
  · rw [if_pos (by omega), if_pos (by omega)]
  · rw [if_neg (by omega), if_neg (by omega)]
    exact h j (by omega)

theorem cmG_spec (f g : Int → Int) : ∀ (k n : Nat), n ≤ cmG f g k n ∧ cmG f g k n ≤ n + k ∧ (∀ j : Nat, n ≤ j → j < cmG f g k n → f j = g j) ∧ (cmG f g k n < n + k → f (cmG f g k n : Nat) ≠ g (cmG f g k n : Nat))
  | 0, n => ⟨Nat.le_refl _, Nat.le_refl _, fun j h1 h2 => by have : j < n := h2; omega, fun h => by have : n < n + 0 := h; omega⟩
  | k + 1, n => by
    obtain ⟨h1, h2, h3, h4⟩ := cmG_spec f g k (n + 1)
    unfold cmG
    by_cases h : f n = g n
    · rw [if_pos h]
      refine ⟨by omega, by omega, fun j hj1 hj2 => ?_, fun hh => h4 (by omega)⟩
      by_cases hjn : j = n
      · rw [hjn]; exact h
      · exact h3 j (by omega) hj2
    · rw [if_neg h]
      exact ⟨Nat.le_refl _, by omega, fun j hj1 hj2 => by omega, fun _ => h⟩

theorem cmB_spec (a b : List Int) : cmB a b ≤ 8 * a.length ∧ (∀ j : Nat, j < cmB a b → bitI a j = bitI b j) ∧ (cmB a b < 8 * a.length → bitI a (cmB a b : Nat) ≠ bitI b (cmB a b : Nat)) := by
  obtain ⟨h1, h2, h3, h4⟩ := cmG_spec (bitI a) (bitI b) (8 * a.length) 0
  unfold cmB
  exact ⟨by omega, fun j hj => h3 j (Nat.zero_le _) hj, fun h => h4 (by omega)⟩
theorem cmB_ge {a b : List Int} {i : Nat} (hi : i ≤ 8 * a.length) : i ≤ cmB a b ↔ ∀ j : Nat, j < i → bitI a j = bitI b j := by
  obtain ⟨h1, h2, h3⟩ := cmB_spec a b
  refine ⟨fun h j hj => h2 j (by omega), fun h => ?_⟩
  rcases Nat.lt_or_ge (cmB a b) i with hlt | hge
  · exact absurd (h _ hlt) (h3 (by omega))
  · exact hge
theorem cmB_uniq {a b : List Int} {r : Nat} (h1 : r ≤ 8 * a.length) (h2 : ∀ j : Nat, j < r → bitI a j = bitI b j) (h3 : r < 8 * a.length → bitI a r ≠ bitI b r) : cmB a b = r := by
  have := (cmB_ge h1).2 h2
  obtain ⟨g1, g2, g3⟩ := cmB_spec a b
  rcases Nat.lt_or_ge r (cmB a b) with hlt | hge
  · exact absurd (g2 r hlt) (h3 (by omega))
  · omega

theorem kept_same {keep : List K} {a b : List Int} (hl : a.length = b.length) {i : Nat} (hi : i < 8 * a.length) (h : ∀ j : Nat, j < i → bitI a j = bitI b j) : keptB keep a i = keptB keep b i := by
  unfold keptB
  refine congrArg (fun f => keep.any f) (funext fun x => ?_)
  rw [hl]
  by_cases hx : x.1.2.length = b.length
  · have e : decide (((cmB x.1.2 a : Nat) : Int) ≥ (i : Int)) = decide (((cmB x.1.2 b : Nat) : Int) ≥ (i : Int)) := by
      refine decide_eq_decide.2 ?_
      have e1 := cmB_ge (a := x.1.2) (b := a) (i := i) (by omega)
      have e2 := cmB_ge (a := x.1.2) (b := b) (i := i) (by omega)
      constructor
      · intro hh
        have := e2.2 fun j hj => (e1.1 (by omega) j hj).trans (h j hj)
        omega
      · intro hh
        have := e1.2 fun j hj => (e2.1 (by omega) j hj).trans (h j hj).symm
        omega
    rw [e]
  · rw [decide_eq_false hx]
    rfl

theorem turn_same {k : List Int} {keep : List K} {a b : List Int} (ha : Bts a) (hb : Bts b) (hl : a.length = b.length) {i : Nat} (hi : i < 8 * a.length) (h : ∀ j : Nat, j < i → bitI a j = bitI b j) : turnB k keep a i = turnB k keep b i := by
  unfold turnB
  rw [kept_same hl hi h, front_same ha hb hl (by omega) h, hl]

theorem mpG_spec (k : List Int) (keep : List K) (a : List Int) : ∀ (m i : Nat) (o : List Int), Bts o → o.length = a.length → i + m ≤ 8 * a.length →
    Bts (mpG k keep a m i o) ∧ (mpG k keep a m i o).length = a.length ∧ ∀ j : Nat, bitI (mpG k keep a m i o) j = if (i ≤ j ∧ j < i + m) ∧ turnB k keep a j = true then 1 - bitI o j else bitI o j
  | 0, i, o, h, hl, hi => ⟨h, hl, fun j => by rw [if_neg (by omega)]; rfl⟩
  | m + 1, i, o, h, hl, hi => by
    show Bts (mpG k keep a m (i + 1) _) ∧ (mpG k keep a m (i + 1) _).length = _ ∧ ∀ j : Nat, bitI (mpG k keep a m (i + 1) _) j = _
    by_cases ht : turnB k keep a i = true
    · rw [if_pos ht]
      obtain ⟨h1, h2, h3⟩ := mpG_spec k keep a m (i + 1) (flipI o i) (flip_bts h i) (by rw [flipI_len]; exact hl) (by omega)
      refine ⟨h1, h2, fun j => ?_⟩
      rw [h3, flip_bit h (by omega)]
      by_cases hj : j = i
      · subst hj
        rw [if_neg (by omega), if_pos rfl, if_pos ⟨by omega, ht⟩]
      · rw [if_neg hj]
        by_cases hj2 : (i + 1 ≤ j ∧ j < i + 1 + m) ∧ turnB k keep a j = true
        · rw [if_pos hj2, if_pos ⟨by omega, hj2.2⟩]
        · rw [if_neg hj2, if_neg (fun hh => hj2 ⟨by omega, hh.2⟩)]
    · rw [if_neg ht]
      obtain ⟨h1, h2, h3⟩ := mpG_spec k keep a m (i + 1) o h hl (by omega)
      refine ⟨h1, h2, fun j => ?_⟩
      rw [h3]
      by_cases hj : j = i
      · subst hj
        rw [if_neg (by omega), if_neg (fun hh => ht hh.2)]
      · by_cases hj2 : (i + 1 ≤ j ∧ j < i + 1 + m) ∧ turnB k keep a j = true
        · rw [if_pos hj2, if_pos ⟨by omega, hj2.2⟩]
        · rw [if_neg hj2, if_neg (fun hh => hj2 ⟨by omega, hh.2⟩)]

theorem mapped_spec (k : List Int) (keep : List K) {a : List Int} (h : Bts a) : Bts (mappedI k keep a) ∧ (mappedI k keep a).length = a.length ∧ ∀ j : Nat, j < 8 * a.length → bitI (mappedI k keep a) j = if turnB k keep a j = true then 1 - bitI a j else bitI a j := by
  obtain ⟨h1, h2, h3⟩ := mpG_spec k keep a (8 * a.length) 0 a h rfl (by omega)
  refine ⟨h1, h2, fun j hj => ?_⟩
  unfold mappedI
  rw [h3]
  by_cases ht : turnB k keep a j = true
  · rw [if_pos ⟨by omega, ht⟩, if_pos ht]
  · rw [if_neg (fun hh => ht hh.2), if_neg ht]

/-- **The law.** -/
theorem mapped_common (k : List Int) (keep : List K) {a b : List Int} (ha : Bts a) (hb : Bts b) (hl : a.length = b.length) : cmB (mappedI k keep a) (mappedI k keep b) = cmB a b := by
  obtain ⟨a1, a2, a3⟩ := mapped_spec k keep ha
  obtain ⟨b1, b2, b3⟩ := mapped_spec k keep hb
  obtain ⟨g1, g2, g3⟩ := cmB_spec a b
  refine cmB_uniq (by rw [a2]; exact g1) (fun j hj => ?_) fun hlt => ?_
  · rw [a3 j (by omega), b3 j (by omega), turn_same ha hb hl (by omega) fun i hi => g2 i (by omega), g2 j hj]
  · rw [a2] at hlt
    rw [a3 _ hlt, b3 _ (by omega), turn_same ha hb hl hlt fun i hi => g2 i hi]
    have := g3 hlt
    split
    · omega
    · exact this

/-- An address that is kept whole stays. -/
theorem mapped_kept (k : List Int) (keep : List K) {a : List Int} (ha : Bts a) (h : ∀ i : Nat, i < 8 * a.length → keptB keep a i = true) : mappedI k keep a = a := by
  obtain ⟨a1, a2, a3⟩ := mapped_spec k keep ha
  refine bits_ext a1 ha a2 fun j hj => ?_
  rw [a2] at hj
  rw [a3 j hj]
  unfold turnB
  rw [h j hj, if_pos rfl, if_neg (by simp)]
end Go.Proofs.Ytlnmkolppgkglaa
