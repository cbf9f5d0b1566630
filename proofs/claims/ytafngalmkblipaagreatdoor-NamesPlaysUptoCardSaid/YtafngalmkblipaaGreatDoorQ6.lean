/- Part 6 of 8: the walks and laws on which the last part rests. No conditions. -/
import Derived.Test.YtafngalmkblipaaGreatDoorQ5
import Derived.Shelf.Sort.Plain
import Derived.Sort.OwnSorted
import Derived.Shelf.Strings.Fields
/- law10, the plain law: each act tells the same and keeps both books together. -/
set_option linter.all false
set_option maxHeartbeats 4000000
set_option maxRecDepth 100000
namespace Go.Proofs.YtafngalmkblipaaGreatDoor
open Go Go.RowKit Go.Sy Go.Proofs

abbrev keyR (q : Rw) : Spot := (q.t, q.k)
def ents (l : List Rw) : List (Spot × ByteArray) := l.map fun q => (keyR q, q.x)
def entN (l : List Nm) : List (ByteArray × ByteArray) := l.map fun n => (keyN n, n.x)
theorem isRw_iff {t : ByteArray} {k : Int} {q : Rw} : isRw t k q = true ↔ (t, k) = keyR q := by
  unfold isRw
  simp only [Bool.and_eq_true, eqBA_iff, beq_iff_eq, Prod.mk.injEq]
  exact ⟨fun ⟨h1, h2⟩ => ⟨h1.symm, h2.symm⟩, fun ⟨h1, h2⟩ => ⟨h1.symm, h2.symm⟩⟩
theorem isRw_eq (t : ByteArray) (k : Int) (q : Rw) : isRw t k q = eqSp (t, k) (keyR q) := by
  cases h : eqSp (t, k) (keyR q) with
  | true => exact isRw_iff.2 (eqSp_iff.1 h)
  | false => exact Bool.eq_false_iff.2 fun g => by rw [eqSp_iff.2 (isRw_iff.1 g)] at h; cases h

structure Lk (b : Bst) (r : Rst) : Prop where
  rows : b.rows = r.rows
  asked : b.asked.Perm (ents r.rows)
  askN : (b.asked.map (·.1)).Nodup
  rules : b.rules.Perm (ents r.rules)
  rulN : (b.rules.map (·.1)).Nodup
  prefs : b.prefs = r.prefs
  off : (b.off.map (·.1)).Perm r.off
  offN : (b.off.map (·.1)).Nodup
  names : b.names.Perm (entN r.names)
  namN : (b.names.map (·.1)).Nodup
  wrows : ∀ q ∈ r.rows, isWordB q.x = true
  wrules : ∀ q ∈ r.rules, isWordB q.x = true
  l1 : r.rows.length ≤ 60
  l2 : r.rules.length ≤ 60
  l3 : r.prefs.length ≤ 60
  l4 : r.off.length ≤ 30
  l5 : r.names.length ≤ 60

theorem ents_len (l : List Rw) : (ents l).length = l.length := List.length_map ..
theorem Lk.lrules {b : Bst} {r : Rst} (h : Lk b r) : b.rules.length = r.rules.length := by rw [h.rules.length_eq, ents_len]
theorem Lk.loff {b : Bst} {r : Rst} (h : Lk b r) : b.off.length = r.off.length := by rw [← h.off.length_eq, List.length_map]
theorem Lk.lnames {b : Bst} {r : Rst} (h : Lk b r) : b.names.length = r.names.length := by rw [h.names.length_eq]; exact List.length_map ..
theorem Lk.small {b : Bst} {r : Rst} (h : Lk b r) : Small b r := by
  have := h.l1; have := h.l2; have := h.l3; have := h.l4; have := h.l5
  have := h.lrules; have := h.loff
  refine ⟨?_, ?_, ?_, ?_, ?_, ?_, ?_, ?_, ?_⟩
  · rw [h.rows]; omega
  · omega
  · rw [h.prefs]; omega
  all_goals omega

theorem lk_new : Lk newB newR := ⟨rfl, .nil, .nil, .nil, .nil, rfl, .nil, .nil, .nil, .nil, by simp [newR], by simp [newR], by decide, by decide, by decide, by decide, by decide⟩

/-- Is a place among rows? -/
theorem pos_iff {l : List Rw} {t : ByteArray} {k : Int} {i : Nat} : 0 ≤ fstI (isRw t k) l i ↔ (t, k) ∈ l.map keyR := by
  constructor
  · intro h
    obtain ⟨l1, x, l2, rfl, _, h3, _⟩ := fstI_pos h
    rw [isRw_iff.1 h3]; simp
  · intro h
    obtain ⟨q, hq, he⟩ := List.mem_map.1 h
    by_cases hn : fstI (isRw t k) l i < 0
    · have := fstI_neg hn q hq
      rw [isRw_iff.2 he.symm] at this
      cases this
    · omega
theorem ents_keys (l : List Rw) : (ents l).map (·.1) = l.map keyR := by unfold ents; rw [List.map_map]; rfl
theorem in_iff {m : List (Spot × ByteArray)} {l : List Rw} (h : m.Perm (ents l)) {a : Spot} {i : Nat} : lkI eqSp a m 0 = none ↔ fstI (isRw a.1 a.2) l i < 0 := by
  rw [lkI_none_iff (fun _ _ => eqSp_iff)]
  have h1 : a ∈ m.map (·.1) ↔ a ∈ l.map keyR := by rw [← ents_keys]; exact (h.map _).mem_iff
  have h2 := pos_iff (l := l) (t := a.1) (k := a.2) (i := i)
  rw [h1]
  constructor
  · intro h3
    by_cases h4 : fstI (isRw a.1 a.2) l i < 0
    · exact h4
    · exact (h3 (h2.1 (by omega))).elim
  · intro h3 h4
    have := h2.2 h4
    omega

theorem row_step {b : Bst} {r : Rst} (h : Lk b r) (x : Rw) : (rowB b x).1 = (rrowB r x).1 ∧ Lk (rowB b x).2 (rrowB r x).2 := by
  unfold rowB rrowB
  by_cases h1 : isRowB x = false
  · rw [if_pos h1, if_pos h1]; exact ⟨rfl, h⟩
  rw [if_neg h1, if_neg h1]
  have hw : isWordB x.x = true := by unfold isRowB at h1; simp at h1; exact h1.2.1
  have hi := in_iff h.asked (a := (x.t, x.k)) (i := 0)
  simp only at hi
  cases hl : lkI eqSp (x.t, x.k) b.asked 0 with
  | some y =>
    have : 0 ≤ fstI (isRw x.t x.k) r.rows 0 := by
      by_cases h4 : fstI (isRw x.t x.k) r.rows 0 < 0
      · rw [hi.2 h4] at hl; cases hl
      · omega
    rw [if_pos this]; exact ⟨rfl, h⟩
  | none =>
    have hneg := hi.1 hl
    simp only
    rw [if_neg (show ¬ 0 ≤ fstI (isRw x.t x.k) r.rows 0 by omega), h.rows]
    split
    · exact ⟨rfl, h⟩
    · rename_i h5
      refine ⟨rfl, ?_⟩
      have hk : x.t = x.t := rfl
      have hs : (setK eqSp (x.t, x.k) x.x b.asked) = b.asked ++ [((x.t, x.k), x.x)] := by unfold setK; rw [hl]
      refine { h with rows := by simp only [h.rows], asked := ?_, askN := setK_keys (fun _ _ => eqSp_iff) h.askN, wrows := ?_, l1 := ?_ }
      · show (setK eqSp (x.t, x.k) x.x b.asked).Perm (ents (r.rows ++ [x]))
        rw [hs]
        unfold ents
        rw [List.map_append]
        exact h.asked.append_right _
      · intro q hq
        rcases List.mem_append.1 hq with hq | hq
        · exact h.wrows q hq
        · rw [List.mem_singleton.1 hq]; exact hw
      · show (r.rows ++ [x]).length ≤ 60
        rw [List.length_append]
        simp only [List.length_cons, List.length_nil]; omega

/-- What is left of rules without one. -/
theorem rul_filter {l : List Rw} (hn : (l.map keyR).Nodup) (t : ByteArray) (k : Int) : (fstI (isRw t k) l 0 < 0 → ∀ q ∈ l, isRw t k q = false) ∧
    (0 ≤ fstI (isRw t k) l 0 → ∃ l1 q l2, l = l1 ++ q :: l2 ∧ fstI (isRw t k) l 0 = l1.length ∧ isRw t k q = true ∧ l.filter (fun q => !isRw t k q) = l1 ++ l2) := by
  refine ⟨fun h => fstI_neg h, fun h => ?_⟩
  obtain ⟨l1, q, l2, rfl, h2, h3, h4⟩ := fstI_pos h
  refine ⟨l1, q, l2, rfl, by rw [h2]; simp, h3, ?_⟩
  have hq := isRw_iff.1 h3
  rw [List.map_append, List.map_cons, List.nodup_append] at hn
  obtain ⟨n1, n2, n3⟩ := hn
  rw [List.filter_append, List.filter_cons_of_neg (by rw [h3]; decide)]
  congr 1
  · exact List.filter_eq_self.2 fun e he => by rw [h4 e he]; rfl
  · refine List.filter_eq_self.2 fun e he => ?_
    cases hc : isRw t k e with
    | false => rfl
    | true =>
      have := isRw_iff.1 hc
      exact ((List.nodup_cons.1 n2).1 (by rw [← hq, this]; exact List.mem_map.2 ⟨e, he, rfl⟩)).elim
theorem ents_filter (l : List Rw) (t : ByteArray) (k : Int) : (ents l).filter (fun e => !eqSp (t, k) e.1) = ents (l.filter fun q => !isRw t k q) := by
  unfold ents
  rw [List.filter_map]
  congr 1
  exact List.filter_congr fun q _ => by simp only [Function.comp, isRw_eq]
theorem Lk.rulK {b : Bst} {r : Rst} (h : Lk b r) : (r.rules.map keyR).Nodup := by
  rw [← ents_keys]; exact (h.rules.map _).nodup_iff.1 h.rulN

theorem unrule_step {b : Bst} {r : Rst} (h : Lk b r) (t : ByteArray) (k : Int) : (unruleB b (t, k)).1 = (runruleB r t k).1 ∧ Lk (unruleB b (t, k)).2 (runruleB r t k).2 := by
  unfold unruleB runruleB rpos
  have hi := in_iff h.rules (a := (t, k)) (i := 0)
  simp only at hi
  cases hl : lkI eqSp (t, k) b.rules 0 with
  | none => rw [if_pos (hi.1 hl)]; exact ⟨rfl, h⟩
  | some y =>
    have hp : 0 ≤ fstI (isRw t k) r.rules 0 := by
      by_cases h4 : fstI (isRw t k) r.rules 0 < 0
      · rw [hi.2 h4] at hl; cases hl
      · omega
    rw [if_neg (by omega)]
    obtain ⟨l1, q, l2, e1, e2, e3, e4⟩ := (rul_filter h.rulK t k).2 hp
    have e5 : r.rules.take (fstI (isRw t k) r.rules 0).toNat ++ r.rules.drop ((fstI (isRw t k) r.rules 0).toNat + 1) = r.rules.filter (fun q => !isRw t k q) := by
      rw [e4, e2, Int.toNat_natCast, e1]
      simp
    simp only
    rw [e5]
    have hlen : (r.rules.filter (fun q => !isRw t k q)).length ≤ r.rules.length := List.length_filter_le ..
    have := h.l2
    refine ⟨trivial, { h with rules := ?_, rulN := delK_keys (fun _ _ => eqSp_iff) h.rulN, wrules := fun q hq => h.wrules q (List.mem_filter.1 hq).1, l2 := Nat.le_trans hlen this }⟩
    show (delK eqSp (t, k) b.rules).Perm (ents (r.rules.filter fun q => !isRw t k q))
    rw [← ents_filter]
    exact (delK_perm (fun _ _ => eqSp_iff) h.rulN).trans (h.rules.filter _)

theorem rOut_eq {r : Rst} (hn : (r.rules.map keyR).Nodup) (x : Rw) : rOut r x = r.rules.filter (fun q => !isRw x.t x.k q) := by
  unfold rOut rpos
  by_cases h : fstI (isRw x.t x.k) r.rules 0 < 0
  · rw [outK_neg h, List.take_length]
    have := (rul_filter hn x.t x.k).1 h
    exact (List.filter_eq_self.2 fun q hq => by rw [this q hq]; rfl).symm
  · obtain ⟨l1, q, l2, e1, e2, e3, e4⟩ := (rul_filter hn x.t x.k).2 (by omega)
    rw [e4, e2]
    have := outK_pos (l1 := l1) (l2 := l2) (x := q) (a := (l1.length : Int)) rfl
    rw [← e1] at this
    exact this

theorem rule_step {b : Bst} {r : Rst} (h : Lk b r) (x : Rw) : (ruleB b x).1 = (rruleB r x).1 ∧ Lk (ruleB b x).2 (rruleB r x).2 := by
  unfold ruleB rruleB
  by_cases h1 : isRowB x = false
  · rw [if_pos h1, if_pos h1]; exact ⟨rfl, h⟩
  rw [if_neg h1, if_neg h1]
  have hw : isWordB x.x = true := by unfold isRowB at h1; simp at h1; exact h1.2.1
  have hi := in_iff h.rules (a := (x.t, x.k)) (i := 0)
  simp only at hi
  have hlr := h.lrules
  have hro := rOut_eq h.rulK x
  have hkk := (rul_filter h.rulK x.t x.k)
  generalize preN (lsR x) (rOut r x) = j
  rw [hro]
  have hperm : (List.take j (r.rules.filter fun q => !isRw x.t x.k q) ++ [x] ++ List.drop j (r.rules.filter fun q => !isRw x.t x.k q)).Perm (x :: r.rules.filter fun q => !isRw x.t x.k q) := by
    have : (List.take j (r.rules.filter fun q => !isRw x.t x.k q) ++ [x] ++ List.drop j (r.rules.filter fun q => !isRw x.t x.k q)).Perm (x :: (List.take j (r.rules.filter fun q => !isRw x.t x.k q) ++ List.drop j (r.rules.filter fun q => !isRw x.t x.k q))) := by
      rw [List.append_assoc]
      exact List.perm_middle
    rwa [List.take_append_drop] at this
  have fin : (r.rules.filter fun q => !isRw x.t x.k q).length + 1 ≤ 60 →
      Lk { b with rules := setK eqSp (x.t, x.k) x.x b.rules } { r with rules := List.take j (r.rules.filter fun q => !isRw x.t x.k q) ++ [x] ++ List.drop j (r.rules.filter fun q => !isRw x.t x.k q) } := fun hl => by
    refine { h with rules := ?_, rulN := setK_keys (fun _ _ => eqSp_iff) h.rulN, wrules := fun q hq => ?_, l2 := ?_ }
    · refine (setK_perm (fun _ _ => eqSp_iff) h.rulN).trans ?_
      refine List.Perm.trans ?_ (hperm.map fun q => (keyR q, q.x)).symm
      refine List.Perm.cons _ ?_
      have := h.rules.filter fun e => !eqSp (x.t, x.k) e.1
      rw [ents_filter] at this
      exact this
    · rcases List.mem_cons.1 (hperm.mem_iff.1 hq) with rfl | hq
      · exact hw
      · exact h.wrules q (List.mem_filter.1 hq).1
    · show (List.length _) ≤ 60
      rw [hperm.length_eq]; simpa using hl
  cases hl : lkI eqSp (x.t, x.k) b.rules 0 with
  | none =>
    have hneg := hi.1 hl
    have hf : (r.rules.filter fun q => !isRw x.t x.k q) = r.rules := List.filter_eq_self.2 fun q hq => by rw [hkk.1 hneg q hq]; rfl
    simp only
    by_cases h5 : r.rules.length ≥ 60
    · rw [if_pos (by omega), if_pos (by unfold rpos; simp [hneg, h5])]; exact ⟨rfl, h⟩
    · rw [if_neg (by omega), if_neg (by unfold rpos; simp [hneg]; omega)]
      exact ⟨rfl, fin (by rw [hf]; omega)⟩
  | some y =>
    have hp : 0 ≤ fstI (isRw x.t x.k) r.rules 0 := by
      by_cases h4 : fstI (isRw x.t x.k) r.rules 0 < 0
      · rw [hi.2 h4] at hl; cases hl
      · omega
    obtain ⟨l1, q, l2, e1, e2, e3, e4⟩ := hkk.2 hp
    simp only
    rw [if_neg (by unfold rpos; simp; omega)]
    refine ⟨rfl, fin ?_⟩
    have := h.l2
    rw [e4]
    rw [e1] at this
    simp at this ⊢
    omega
end Go.Proofs.YtafngalmkblipaaGreatDoor
/- law10, the plain law: the other acts; whole scripts; ports. -/
set_option linter.all false
set_option maxHeartbeats 4000000
set_option maxRecDepth 100000
namespace Go.Proofs.YtafngalmkblipaaGreatDoor
open Go Go.RowKit Go.Sy Go.Proofs

theorem pref_step {b : Bst} {r : Rst} (h : Lk b r) (n : ByteArray) (l m u : Int) : (prefB b n l m u).1 = (rprefB r n l m u).1 ∧ Lk (prefB b n l m u).2 (rprefB r n l m u).2 := by
  unfold prefB rprefB
  rw [h.prefs]
  have e : (!isWordB n || decide (l > u) || decide (u > m) || !isNumB l || !isNumB m) = (!isWordB n || decide (u < l) || decide (u > m) || !isNumB l || !isNumB m) := rfl
  rw [e]
  split
  · exact ⟨rfl, h⟩
  · split
    · exact ⟨rfl, h⟩
    · split
      · exact ⟨rfl, h⟩
      · refine ⟨rfl, { h with prefs := rfl, l3 := ?_ }⟩
        show (r.prefs ++ [_]).length ≤ 60
        rw [List.length_append]; simp only [List.length_cons, List.length_nil]; omega
theorem set_step {b : Bst} {r : Rst} (h : Lk b r) (n : ByteArray) (v : Int) : (setB b n v).1 = (rsetB r n v).1 ∧ Lk (setB b n v).2 (rsetB r n v).2 := by
  unfold setB rsetB
  rw [h.prefs]
  simp only
  generalize fstI (isPf n) r.prefs 0 = k
  by_cases hk : k < 0
  · rw [if_pos hk, if_pos hk]; exact ⟨rfl, h⟩
  · rw [if_neg hk, if_neg hk]
    cases hq : r.prefs[k.toNat]? with
    | none => exact ⟨rfl, h⟩
    | some p =>
      simp only
      split
      · exact ⟨rfl, h⟩
      · refine ⟨rfl, { h with prefs := rfl, l3 := ?_ }⟩
        show (r.prefs.set _ _).length ≤ 60
        rw [List.length_set]; exact h.l3

theorem eqBA_comm (a b : ByteArray) : eqBA a b = eqBA b a := by
  rw [Bool.eq_iff_iff, eqBA_iff, eqBA_iff]; exact ⟨Eq.symm, Eq.symm⟩
theorem off_filter (l : List (ByteArray × Unit)) (s : ByteArray) : (l.filter fun e => !eqBA s e.1).map (·.1) = (l.map (·.1)).filter (notS s) := by
  rw [List.filter_map]
  congr 1
  exact List.filter_congr fun e _ => by simp only [Function.comp, notS, eqBA_comm]
theorem srtS_perm (l : List ByteArray) : (srtS l).Perm l := List.mergeSort_perm _ _

theorem turn_step {b : Bst} {r : Rst} (h : Lk b r) (s : ByteArray) (on : Bool) : (turnB b s on).1 = (rturnB r s on).1 ∧ Lk (turnB b s on).2 (rturnB r s on).2 := by
  unfold turnB rturnB
  by_cases h1 : isWordB s = false
  · rw [if_pos h1, if_pos h1]; exact ⟨rfl, h⟩
  rw [if_neg h1, if_neg h1]
  have hlf : (r.off.filter (notS s)).length ≤ r.off.length := List.length_filter_le ..
  have h4 := h.l4
  have hlo := h.loff
  have hpf : ((b.off.filter fun e => !eqBA s e.1).map (·.1)).Perm (r.off.filter (notS s)) := by rw [off_filter]; exact h.off.filter _
  cases on with
  | true =>
    have he : rturnO r s true = r.off.filter (notS s) := by unfold rturnO; rw [if_pos rfl]
    rw [if_pos rfl, he, if_neg (by omega)]
    refine ⟨rfl, { h with off := ?_, offN := delK_keys (fun _ _ => eqBA_iff) h.offN, l4 := Nat.le_trans hlf h4 }⟩
    exact ((delK_perm (fun _ _ => eqBA_iff) h.offN).map (·.1)).trans hpf
  | false =>
    have he : rturnO r s false = srtS (r.off.filter (notS s) ++ [s]) := by unfold rturnO; rw [if_neg (by decide)]
    have hl : (srtS (r.off.filter (notS s) ++ [s])).length = (r.off.filter (notS s)).length + 1 := by rw [(srtS_perm _).length_eq]; simp
    have hin := lkI_none_iff (fun _ _ => eqBA_iff) (a := s) (l := b.off)
    rw [h.off.mem_iff] at hin
    have fin : (r.off.filter (notS s)).length + 1 ≤ 30 → Lk { b with off := setK eqBA s () b.off } { r with off := srtS (r.off.filter (notS s) ++ [s]) } := fun hh =>
      { h with
        off := (((setK_perm (fun _ _ => eqBA_iff) h.offN).map (·.1)).trans (List.Perm.cons _ hpf)).trans ((List.perm_append_singleton _ _).symm.trans (srtS_perm _).symm)
        offN := setK_keys (fun _ _ => eqBA_iff) h.offN
        l4 := by show (srtS _).length ≤ 30; rw [hl]; exact hh }
    rw [if_neg (by decide), he, hl]
    cases hk : lkI eqBA s b.off 0 with
    | none =>
      have hns := hin.1 hk
      have hf : r.off.filter (notS s) = r.off := List.filter_eq_self.2 fun x hx => by
        unfold notS
        cases hc : eqBA x s with
        | false => rfl
        | true => exact (hns (by rw [← eqBA_iff.1 hc]; exact hx)).elim
      simp only
      rw [hf] at fin ⊢
      by_cases h5 : b.off.length ≥ 30
      · rw [if_pos h5, if_pos (by omega)]; exact ⟨rfl, h⟩
      · rw [if_neg h5, if_neg (by omega)]; exact ⟨rfl, fin (by omega)⟩
    | some y =>
      have hs : s ∈ r.off := by
        by_cases hc : s ∈ r.off
        · exact hc
        · rw [hin.2 hc] at hk; cases hk
      have hlt : (r.off.filter (notS s)).length < r.off.length := List.length_filter_lt_length_iff_exists.2 ⟨s, hs, by unfold notS; rw [eqBA_refl]; decide⟩
      simp only
      rw [if_neg (by omega)]
      exact ⟨rfl, fin (by omega)⟩

def othN (n y : Nm) : Bool := !eqBA (keyN n) (keyN y)
theorem nmIns_perm (n : Nm) (l : List Nm) : ∀ i, i ≤ l.length → if (nmIns n l i).2 then (nmIns n l i).1.Perm (n :: (l.take i).filter (othN n)) else (nmIns n l i).1 = (l.take i).filter (othN n)
  | 0, _ => by simp [nmIns]
  | i + 1, hi => by
    have hq : l[i]? = some l[i] := List.getElem?_eq_getElem (by omega)
    have ih := nmIns_perm n l i (by omega)
    have hf := filter_succ (othN n) hq
    rw [hf]
    generalize hy : l[i] = y at *
    rw [nmIns, hq]
    simp only
    generalize nmIns n l i = p at *
    obtain ⟨o, d⟩ := p
    simp only at ih ⊢
    by_cases he : eqBA (keyN n) (keyN y) = true
    · have ho : othN n y = false := by unfold othN; rw [he]; rfl
      rw [ho, he]
      simp only [Bool.false_eq_true, if_false, if_true, List.append_nil]
      cases d with
      | true => simpa using ih
      | false =>
        simp only [Bool.false_eq_true, if_false] at ih
        subst ih
        by_cases hle : leBA (keyN n) (keyN y) = true
        · simp only [hle, Bool.not_false, Bool.and_self, if_true]
          exact List.perm_append_singleton _ _
        · rw [Bool.not_eq_true] at hle
          simp [hle]
    · rw [Bool.not_eq_true] at he
      have ho : othN n y = true := by unfold othN; rw [he]; rfl
      rw [ho, he]
      simp only [Bool.false_eq_true, if_false, if_true]
      cases d with
      | true =>
        simp only [if_true] at ih
        simp only [Bool.not_true, Bool.false_and, Bool.false_eq_true, if_false, if_true]
        exact (ih.append_right [y])
      | false =>
        simp only [Bool.false_eq_true, if_false] at ih
        subst ih
        by_cases hle : leBA (keyN n) (keyN y) = true
        · simp only [hle, Bool.not_false, Bool.and_self, if_true]
          exact (List.perm_append_singleton _ _).append_right [y]
        · rw [Bool.not_eq_true] at hle
          simp [hle]
theorem nmOut_perm (n : Nm) (l : List Nm) : (nmOut n l).Perm (n :: l.filter (othN n)) := by
  have h := nmIns_perm n l l.length (Nat.le_refl _)
  rw [List.take_length] at h
  unfold nmOut
  split at h
  · rename_i hd; rw [if_pos hd]; exact h
  · rename_i hd; rw [if_neg hd, h]; exact List.perm_append_singleton _ _
theorem entN_filter (l : List Nm) (n : Nm) : (entN l).filter (fun e => !eqBA (keyN n) e.1) = entN (l.filter (othN n)) := by
  unfold entN
  rw [List.filter_map]
  rfl

theorem name_step {b : Bst} {r : Rst} (h : Lk b r) (n : Nm) : (nameB b n).1 = (rnameB r n).1 ∧ Lk (nameB b n).2 (rnameB r n).2 := by
  unfold nameB rnameB
  by_cases h1 : isNameB n = false
  · rw [if_pos h1, if_pos h1]; exact ⟨rfl, h⟩
  rw [if_neg h1, if_neg h1]
  have h5 := h.l5
  have hln := h.lnames
  have hp := nmOut_perm (own n) r.names
  have hl := hp.length_eq
  simp only [List.length_cons] at hl
  have hin := lkI_none_iff (fun _ _ => eqBA_iff) (a := keyN n) (l := b.names)
  have hmem : keyN n ∈ b.names.map (·.1) ↔ keyN n ∈ r.names.map keyN := by
    rw [(h.names.map (·.1)).mem_iff]; unfold entN; rw [List.map_map]; exact Iff.rfl
  rw [hmem] at hin
  have fin : (nmOut (own n) r.names).length ≤ 60 → Lk { b with names := setK eqBA (keyN n) n.x b.names } { r with names := nmOut (own n) r.names } := fun hh => by
    refine { h with names := ?_, namN := setK_keys (fun _ _ => eqBA_iff) h.namN, l5 := hh }
    refine (setK_perm (fun _ _ => eqBA_iff) h.namN).trans ?_
    refine List.Perm.trans ?_ (hp.map fun n => (keyN n, n.x)).symm
    refine List.Perm.cons _ ?_
    have := h.names.filter fun e => !eqBA (keyN (own n)) e.1
    rw [entN_filter] at this
    exact this
  cases hk : lkI eqBA (keyN n) b.names 0 with
  | none =>
    have hns := hin.1 hk
    have hf : r.names.filter (othN (own n)) = r.names := List.filter_eq_self.2 fun x hx => by
      unfold othN
      cases hc : eqBA (keyN (own n)) (keyN x) with
      | false => rfl
      | true => exact (hns (by rw [show keyN n = keyN x from eqBA_iff.1 hc]; exact List.mem_map.2 ⟨x, hx, rfl⟩)).elim
    rw [hf] at hl
    simp only
    by_cases h6 : b.names.length ≥ 60
    · rw [if_pos h6, if_pos (by omega)]; exact ⟨rfl, h⟩
    · rw [if_neg h6, if_neg (by omega)]; exact ⟨rfl, fin (by omega)⟩
  | some y =>
    have hs : keyN n ∈ r.names.map keyN := by
      by_cases hc : keyN n ∈ r.names.map keyN
      · exact hc
      · rw [hin.2 hc] at hk; cases hk
    obtain ⟨z, hz, hzk⟩ := List.mem_map.1 hs
    have hlt : (r.names.filter (othN (own n))).length < r.names.length := List.length_filter_lt_length_iff_exists.2 ⟨z, hz, by unfold othN; rw [hzk, show eqBA (keyN (own n)) (keyN n) = true from eqBA_refl _]; decide⟩
    simp only
    rw [if_neg (by omega)]
    exact ⟨rfl, fin (by omega)⟩

theorem play_step {b : Bst} {r : Rst} (h : Lk b r) (x : Scr) (a : Ac) : (playB b r x a).1 = true ∧ Lk (playB b r x a).2.1 (playB b r x a).2.2 := by
  have t : ∀ {i j : Int} {b' : Bst} {r' : Rst}, i = j ∧ Lk b' r' → ((i == j, b', r') : Bool × Bst × Rst).1 = true ∧ Lk ((i == j, b', r') : Bool × Bst × Rst).2.1 ((i == j, b', r') : Bool × Bst × Rst).2.2 := fun g => ⟨beq_iff_eq.2 g.1, g.2⟩
  unfold playB
  simp only
  split
  · exact t (row_step h _)
  · split
    · exact t (rule_step h _)
    · split
      · exact t (unrule_step h _ _)
      · split
        · exact t (pref_step h _ _ _ _)
        · split
          · exact t (set_step h _ _)
          · split
            · exact t (turn_step h _ _)
            · split
              · exact t (name_step h _)
              · exact ⟨rfl, h⟩
theorem run_lk (x : Scr) : ∀ i, Lk (runI x i).1 (runI x i).2
  | 0 => lk_new
  | i + 1 => by
    unfold runI
    split
    · exact run_lk x i
    · exact (play_step (run_lk x i) x _).2
end Go.Proofs.YtafngalmkblipaaGreatDoor
/- law10, the plain law: ports. -/
set_option linter.all false
set_option maxHeartbeats 4000000
set_option maxRecDepth 100000
namespace Go.Proofs.YtafngalmkblipaaGreatDoor
open Go Go.RowKit Go.Sy Go.Proofs

theorem off_eq {b : Bst} {r : Rst} (h : Lk b r) (p : ByteArray) : isOff b p = offAny r p := by
  unfold isOff offAny
  have hin := lkI_none_iff (fun _ _ => eqBA_iff) (a := p) (l := b.off)
  rw [h.off.mem_iff] at hin
  cases hk : lkI eqBA p b.off 0 with
  | none =>
    have := hin.1 hk
    symm
    rw [Option.isSome_none, List.any_eq_false]
    intro y hy hc
    exact this (by rw [← eqBA_iff.1 hc]; exact hy)
  | some y =>
    symm
    rw [Option.isSome_some, List.any_eq_true]
    have hs : p ∈ r.off := by
      by_cases hc : p ∈ r.off
      · exact hc
      · rw [hin.2 hc] at hk; cases hk
    exact ⟨p, hs, eqBA_refl p⟩
theorem of1_eq {b : Bst} {r : Rst} (h : Lk b r) {m : List (Spot × ByteArray)} {l : List Rw} (hp : m.Perm (ents l)) (hn : (m.map (·.1)).Nodup) (t : ByteArray) (k : Int) : of1 b m (t, k) = rp1 r l t k := by
  have hi := in_iff hp (a := (t, k)) (i := 0)
  simp only at hi
  unfold of1 rp1
  cases hl : lkI eqSp (t, k) m 0 with
  | none => rw [if_pos (hi.1 hl)]
  | some y =>
    have hpos : 0 ≤ fstI (isRw t k) l 0 := by
      by_cases h4 : fstI (isRw t k) l 0 < 0
      · rw [hi.2 h4] at hl; cases hl
      · omega
    rw [if_neg (by omega)]
    obtain ⟨l1, q, l2, e1, e2, e3, _⟩ := fstI_pos hpos
    have hq : l[(fstI (isRw t k) l 0).toNat]? = some q := by
      rw [e2, e1]
      simp
    have hv : (lkI eqSp (t, k) m 0).map (·.2) = some q.x := by
      rw [lkI_val (fun _ _ => eqSp_iff) hn, hp.mem_iff]
      unfold ents
      refine List.mem_map.2 ⟨q, by rw [e1]; simp, ?_⟩
      rw [← isRw_iff.1 e3]
    rw [hl] at hv
    simp only [Option.map_some, Option.some.injEq] at hv
    rw [hq]
    simp only
    rw [hv, off_eq h]
theorem ofB_eq {b : Bst} {r : Rst} (h : Lk b r) (t : ByteArray) (k : Int) : ofB b (t, k) = rproO r t k := by
  unfold ofB rproO
  rw [of1_eq h h.rules h.rulN, of1_eq h h.asked h.askN]
  all_goals rfl
theorem word_ne {s : ByteArray} (h : isWordB s = true) : s ≠ noS := by
  rintro rfl
  unfold isWordB at h
  rw [ByteArray.toList_eq] at h
  revert h
  decide
theorem pro_ne {b : Bst} {r : Rst} (h : Lk b r) {t : ByteArray} {k : Int} {p : ByteArray} (hp : rproO r t k = some p) : p ≠ noS := by
  have one : ∀ {l : List Rw}, (∀ q ∈ l, isWordB q.x = true) → ∀ {p}, rp1 r l t k = some p → p ≠ noS := fun hw p hp => by
    obtain ⟨_, q, hq, rfl⟩ := rp1_some hp
    exact word_ne (hw q (List.mem_of_getElem? hq))
  unfold rproO at hp
  split at hp
  · rename_i q hq
    exact Option.some.inj hp ▸ one h.wrules hq
  · exact one h.wrows hp

def orO (A B : Option ByteArray) : Option ByteArray := match A with | some p => some p | none => B
theorem pick_eq {A B : Option ByteArray} (hA : ∀ p, A = some p → p ≠ noS) (hB : ∀ p, B = some p → p ≠ noS) :
    portV (some (orO A B)) = rportV (some (pickS (A.getD noS) (B.getD noS))) := by
  have ne : ∀ {p : ByteArray}, p ≠ noS → eqBA p noS = false := fun hp => Bool.eq_false_iff.2 fun h => hp (eqBA_iff.1 h)
  cases A with
  | some p =>
    have := ne (hA p rfl)
    show (p, true, (0 : Int)) = _
    unfold rportV pickS
    simp [this]
  | none =>
    cases B with
    | some q =>
      have := ne (hB q rfl)
      unfold rportV pickS
      simp [eqBA_refl, this]
      rfl
    | none =>
      unfold rportV pickS
      simp [eqBA_refl]
      rfl

theorem port_eq {b : Bst} {r : Rst} (h : Lk b r) (t how : ByteArray) (x y : Int) : portV (portB b t x y how) = rportV (rportB r t x y how) := by
  have ne : ∀ {p : ByteArray}, p ≠ noS → eqBA p noS = false := fun hp => Bool.eq_false_iff.2 fun h => hp (eqBA_iff.1 h)
  have hf : ∀ k l, portV (some (firB b t k l)) = rportV (some (pickS (rproB r t k) (rproB r t l))) := fun k l => by
    unfold firB
    rw [ofB_eq h, ofB_eq h]
    exact pick_eq (A := rproO r t k) (B := rproO r t l) (fun p hp => pro_ne h hp) (fun p hp => pro_ne h hp)
  unfold portB rportB
  by_cases h1 : (how.toList == sLower.toList) = true
  · rw [if_pos h1, if_pos h1]
    by_cases hxy : y < x
    · rw [if_pos hxy, Int.min_def, Int.max_def, if_neg (by omega), if_neg (by omega)]
      exact hf y x
    · rw [if_neg hxy, Int.min_def, Int.max_def, if_pos (by omega), if_pos (by omega)]
      exact hf x y
  · rw [if_neg h1, if_neg h1]
    by_cases h2 : (how.toList == sSource.toList) = true
    · rw [if_pos h2, if_pos h2]; exact hf x y
    · rw [if_neg h2, if_neg h2]
      by_cases h3 : (how.toList == sDest.toList) = true
      · rw [if_pos h3, if_pos h3]; exact hf y x
      · rw [if_neg h3, if_neg h3]
        by_cases h4 : (how.toList == sBoth.toList) = true
        · rw [if_pos h4, if_pos h4, ofB_eq h, ofB_eq h]
          have hA : ∀ p, rproO r t x = some p → p ≠ noS := fun p hp => pro_ne h hp
          have hB : ∀ p, rproO r t y = some p → p ≠ noS := fun p hp => pro_ne h hp
          unfold rproB
          generalize rproO r t x = A at *
          generalize rproO r t y = B at *
          cases A with
          | none =>
            cases B with
            | none => simp [portV, rportV, optR, eqBA_refl, pickS]
            | some q =>
              have := ne (hB q rfl)
              rw [eqBA_comm] at this
              simp [portV, rportV, optR, eqBA_refl, this]
          | some p =>
            have hpn := ne (hA p rfl)
            cases B with
            | none => simp [portV, rportV, optR, eqBA_refl, hpn]
            | some q =>
              by_cases he : eqBA p q = true
              · simp [portV, rportV, optR, he, pickS, hpn]
              · rw [Bool.not_eq_true] at he
                simp [portV, rportV, optR, he, eqBA_refl]
        · rw [if_neg h4, if_neg h4]; rfl

theorem good_of (x : Scr) (h1 : (x.rows.length : Int) ≤ 2000000) (h2 : (x.names.length : Int) ≤ 2000000) (h3 : (x.acts.length : Int) ≤ 2000000)
    (h4 : ∀ n ∈ x.names, (n.a.length : Int) ≤ 2000000) (h5 : ∀ n ∈ x.names, (n.x.size : Int) ≤ 2000000) (h6 : ∀ q ∈ x.rows, q.ok) (h7 : ∀ a ∈ x.acts, (a.s.size : Int) ≤ 2000000) : Good x := by
  have key : ∀ n : Int, nameAt x n = zN ∨ nameAt x n ∈ x.names := fun n => by
    unfold nameAt
    split
    · exact .inl rfl
    · rw [List.getD_eq_getElem?_getD]
      cases hc : x.names[n.toNat]? with
      | none => exact .inl rfl
      | some y => exact .inr (List.mem_of_getElem? hc)
  have key2 : ∀ n : Int, rowAt x n = zR ∨ rowAt x n ∈ x.rows := fun n => by
    unfold rowAt
    split
    · exact .inl rfl
    · rw [List.getD_eq_getElem?_getD]
      cases hc : x.rows[n.toNat]? with
      | none => exact .inl rfl
      | some y => exact .inr (List.mem_of_getElem? hc)
  refine ⟨h1, h2, h3, fun n => ?_, fun n => ?_, fun n => (by rcases key2 n with e | e; (rw [e]; exact ⟨by decide, by decide⟩); exact h6 _ e), h7, fun i => (run_lk x i).small, fun i a _ => (play_step (run_lk x i) x a).1⟩
  · rcases key n with e | e
    · rw [e]; decide
    · exact h4 _ e
  · rcases key n with e | e
    · rw [e]; decide
    · exact h5 _ e

end Go.Proofs.YtafngalmkblipaaGreatDoor
/- law10: the reference's words. -/
set_option linter.all false
set_option maxHeartbeats 4000000
set_option maxRecDepth 100000
namespace Go.Proofs.YtafngalmkblipaaGreatDoor
open Go Go.RowKit Go.Sy Go.Proofs

theorem isLet_iff (n : Nat) : isLet n = true ↔ n = 95 ∨ (97 ≤ n ∧ n ≤ 122) ∨ (65 ≤ n ∧ n ≤ 90) := by
  unfold isLet; simp [Bool.or_eq_true, Bool.and_eq_true, or_assoc]
theorem isLet_of {n : Nat} {c : Bool} (h : c = true ↔ (n = 95 ∨ (97 ≤ n ∧ n ≤ 122) ∨ (65 ≤ n ∧ n ≤ 90))) : vB c = vB (isLet n) := congrArg vB (Bool.eq_iff_iff.2 (h.trans (isLet_iff n).symm))

theorem risLet_ok (n : Nat) : CallOk Tryz.prog 93 [vI .u8 (n : Int)] [] fun r st' => st' = [] ∧ r = vB (isLet n) := by
  refine callOk_of true 0 Tryz.func93 rfl rfl (Nat.le_refl _) ?_
  conv => whnf
  repeat (first | (refine rest_vc ?_; conv => whnf) | (refine ⟨by decide, ?_⟩; conv => whnf))
  split <;> rename_i h1 <;> (conv => whnf) <;> repeat (first | (refine rest_vc ?_; conv => whnf) | (refine ⟨by decide, ?_⟩; conv => whnf))
  · have h1 : (n : Int) = 95 := beq_iff_eq.1 h1
    exact ⟨rfl, isLet_of (by simp; omega)⟩
  · have h1 : ¬ (n : Int) = 95 := beq_eq_false_iff_ne.1 h1
    split <;> rename_i h2 <;> (conv => whnf) <;> repeat (first | (refine rest_vc ?_; conv => whnf) | (refine ⟨by decide, ?_⟩; conv => whnf))
    · have h2 := of_decide_eq_true h2
      split <;> rename_i h3 <;> (conv => whnf) <;> repeat (first | (refine rest_vc ?_; conv => whnf) | (refine ⟨by decide, ?_⟩; conv => whnf))
      · have h3 := of_decide_eq_true h3
        exact ⟨rfl, isLet_of (by simp; omega)⟩
      · have h3 := of_decide_eq_false h3
        split <;> rename_i h4 <;> (conv => whnf) <;> repeat (first | (refine rest_vc ?_; conv => whnf) | (refine ⟨by decide, ?_⟩; conv => whnf))
        · have h4 := of_decide_eq_true h4
          split <;> rename_i h5 <;> (conv => whnf) <;> repeat (first | (refine rest_vc ?_; conv => whnf) | (refine ⟨by decide, ?_⟩; conv => whnf))
          · have h5 := of_decide_eq_true h5
            exact ⟨rfl, isLet_of (by simp; omega)⟩
          · have h5 := of_decide_eq_false h5
            exact ⟨rfl, isLet_of (by simp; omega)⟩
        · have h4 := of_decide_eq_false h4
          exact ⟨rfl, isLet_of (by simp; omega)⟩
    · have h2 := of_decide_eq_false h2
      split <;> rename_i h4 <;> (conv => whnf) <;> repeat (first | (refine rest_vc ?_; conv => whnf) | (refine ⟨by decide, ?_⟩; conv => whnf))
      · have h4 := of_decide_eq_true h4
        split <;> rename_i h5 <;> (conv => whnf) <;> repeat (first | (refine rest_vc ?_; conv => whnf) | (refine ⟨by decide, ?_⟩; conv => whnf))
        · have h5 := of_decide_eq_true h5
          exact ⟨rfl, isLet_of (by simp; omega)⟩
        · have h5 := of_decide_eq_false h5
          exact ⟨rfl, isLet_of (by simp; omega)⟩
      · have h4 := of_decide_eq_false h4
        exact ⟨rfl, isLet_of (by simp; omega)⟩

def isDig (n : Nat) : Bool := decide (48 ≤ n) && decide (n ≤ 57)
theorem risDig_ok (n : Nat) : CallOk Tryz.prog 156 [vI .u8 (n : Int)] [] fun r st' => st' = [] ∧ r = vB (isDig n) := by
  refine callOk_of true 0 Tryz.func156 rfl rfl (Nat.le_refl _) ?_
  conv => whnf
  repeat (first | (refine rest_vc ?_; conv => whnf) | (refine ⟨by decide, ?_⟩; conv => whnf))
  split <;> rename_i h1 <;> (conv => whnf) <;> repeat (first | (refine rest_vc ?_; conv => whnf) | (refine ⟨by decide, ?_⟩; conv => whnf))
  · have h1 := of_decide_eq_true h1
    split <;> rename_i h2 <;> (conv => whnf) <;> repeat (first | (refine rest_vc ?_; conv => whnf) | (refine ⟨by decide, ?_⟩; conv => whnf))
    · have h2 := of_decide_eq_true h2
      exact ⟨rfl, congrArg vB (by unfold isDig; rw [decide_eq_true (by omega), decide_eq_true (by omega)]; rfl)⟩
    · have h2 := of_decide_eq_false h2
      exact ⟨rfl, congrArg vB (by unfold isDig; rw [decide_eq_false (p := n ≤ 57) (by omega)]; simp)⟩
  · have h1 := of_decide_eq_false h1
    exact ⟨rfl, congrArg vB (by unfold isDig; rw [decide_eq_false (p := 48 ≤ n) (by omega)]; rfl)⟩
theorem isPrt_eq (n : Nat) : isPrt n = (isLet n || isDig n) := rfl
theorem risPrt_ok (n : Nat) : CallOk Tryz.prog 116 [vI .u8 (n : Int)] [] fun r st' => st' = [] ∧ r = vB (isPrt n) := by
  refine callOk_of true 0 Tryz.func116 rfl rfl (Nat.le_refl _) ?_
  conv => whnf
  repeat (first | (refine rest_vc ?_; conv => whnf) | (refine ⟨by decide, ?_⟩; conv => whnf))
  refine CallIn.tob ((risLet_ok n)) (k := ?_)
  intro b h1
  cases b <;> (conv => whnf) <;> repeat (first | (refine rest_vc ?_; conv => whnf) | (refine ⟨by decide, ?_⟩; conv => whnf))
  · refine CallIn.tob ((risDig_ok n)) (k := ?_)
    intro b h2
    cases b <;> (conv => whnf) <;> repeat (first | (refine rest_vc ?_; conv => whnf) | (refine ⟨by decide, ?_⟩; conv => whnf))
    · exact ⟨rfl, congrArg vB (by rw [isPrt_eq, h1, h2]; rfl)⟩
    · exact ⟨rfl, congrArg vB (by rw [isPrt_eq, h1, h2]; rfl)⟩
  · exact ⟨rfl, congrArg vB (by rw [isPrt_eq, h1]; rfl)⟩

theorem byteAt_atB (s : ByteArray) (i : Nat) : byteAt s i = ((atB s.toList i : Nat) : Int) := by
  unfold byteAt atB
  rw [ByteArray.toList_eq]
theorem size_toList (s : ByteArray) : s.toList.length = s.size := by rw [ByteArray.toList_eq]; rfl
theorem atB_out {s : ByteArray} {i : Nat} (h : s.size ≤ i) : atB s.toList i = 0 := by
  unfold atB
  rw [List.getD_eq_getElem?_getD, List.getElem?_eq_none (by rw [size_toList]; exact h)]
  rfl
theorem rbyteAt_ok (s : ByteArray) (i : Nat) (hs : (s.size : Int) ≤ 2000000) (hi : (i : Int) ≤ 2000010) : CallOk Tryz.prog 117 [vS s, vI .i64 (i : Int)] [] fun r st' => st' = [] ∧ r = vI .u8 ((atB s.toList i : Nat) : Int) := by
  refine callOk_of true 0 Tryz.func117 rfl rfl (Nat.le_refl _) ?_
  conv => whnf
  repeat (first | (refine rest_vc ?_; conv => whnf) | (refine ⟨by decide, ?_⟩; conv => whnf))
  split <;> rename_i h1 <;> (conv => whnf) <;> repeat (first | (refine rest_vc ?_; conv => whnf) | (refine ⟨by decide, ?_⟩; conv => whnf))
  · have h1 := of_decide_eq_true h1
    refine ⟨⟨by omega, by omega⟩, ?_⟩
    conv => whnf
    repeat (first | (refine rest_vc ?_; conv => whnf) | (refine ⟨by decide, ?_⟩; conv => whnf))
    exact ⟨rfl, congrArg (vI .u8) (byteAt_atB s i)⟩
  · have h1 := of_decide_eq_false h1
    exact ⟨rfl, congrArg (vI .u8) (by rw [atB_out (by omega)]; rfl)⟩

/-- The place at which a word ends does not depend on how far one looks. -/
theorem wEnd_more (s : ByteArray) : ∀ (f i : Nat), s.size ≤ i + f → wEnd s.toList f i = wEnd s.toList (f + 1) i
  | 0, i, h => by
    simp only [wEnd, atB_out (s := s) (i := i) (by omega)]
    rfl
  | f + 1, i, h => by
    rw [wEnd, wEnd]
    rw [wEnd_more s f (i + 1) (by omega), wEnd_more s f (i + 2) (by omega)]
theorem wEnd_at (s : ByteArray) (i : Nat) : wEnd s.toList (s.size - i + 1) i = if isPrt (atB s.toList i) then wEnd s.toList (s.size - (i + 1) + 1) (i + 1) else if atB s.toList i == 46 && isPrt (atB s.toList (i + 1)) then wEnd s.toList (s.size - (i + 2) + 1) (i + 2) else i := by
  have more : ∀ (j f g : Nat), s.size ≤ j + f → wEnd s.toList f j = wEnd s.toList (f + g) j := by
    intro j f g
    induction g with
    | zero => intro _; rfl
    | succ g ih => intro h; rw [ih h, wEnd_more s (f + g) j (by omega)]; rfl
  by_cases hi : i < s.size
  · rw [show s.size - i + 1 = (s.size - i) + 1 from rfl, wEnd]
    have e1 : wEnd s.toList (s.size - i) (i + 1) = wEnd s.toList (s.size - (i + 1) + 1) (i + 1) := by rw [show s.size - i = s.size - (i + 1) + 1 by omega]
    have e2 : wEnd s.toList (s.size - i) (i + 2) = wEnd s.toList (s.size - (i + 2) + 1) (i + 2) := by
      by_cases h2 : i + 1 < s.size
      · rw [more (i + 2) (s.size - (i + 2) + 1) 1 (by omega), show s.size - (i + 2) + 1 + 1 = s.size - i by omega]
      · rw [show s.size - i = s.size - (i + 2) + 1 by omega]
    rw [e1, e2]
  · rw [show s.size - i + 1 = 0 + 1 by omega, wEnd, atB_out (by omega)]
    rfl

theorem rword_ok (s : ByteArray) (i : Nat) (hs : (s.size : Int) ≤ 2000000) (hi : i < s.size) : CallOk Tryz.prog 94 [vS s, vI .i64 (i : Int)] [] fun r st' => st' = [] ∧ r = vI .i64 ((wEnd s.toList (s.size - (i + 1) + 1) (i + 1) : Nat) : Int) := by
  refine callOk_of true 0 Tryz.func94 rfl rfl (Nat.le_refl _) ?_
  conv => whnf
  repeat (first | (refine rest_vc ?_; conv => whnf) | (refine ⟨by decide, ?_⟩; conv => whnf))
  refine awp_loop (n := 29) (α := Nat) (fun j => j ≤ s.size ∧ wEnd s.toList (s.size - j + 1) j = wEnd s.toList (s.size - (i + 1) + 1) (i + 1)) (fun j => [(0, vS s), (1, vI .i64 j)])
    (fun _ => []) (fun j => s.size - j) (i + 1) (fun _ => 0) ⟨hi, rfl⟩ rfl ⟨rfl, congrArg (vI .i64) (succ64 (by omega)), trivial⟩ rfl (fun _ _ => rfl) (fun _ => ⟨Nat.le_refl _, rfl, rfl⟩) ?_
  rintro j ⟨hj, hc⟩
  have hw := wEnd_at s j
  conv => whnf
  repeat (first | (refine rest_vc ?_; conv => whnf) | (refine ⟨by decide, ?_⟩; conv => whnf))
  refine CallIn.to (rbyteAt_ok s j hs (by omega)) (k := ?_)
  conv => whnf
  repeat (first | (refine rest_vc ?_; conv => whnf) | (refine ⟨by decide, ?_⟩; conv => whnf))
  refine CallIn.tob ((risPrt_ok (atB s.toList j))) (k := ?_)
  intro b h1
  cases b <;> (conv => whnf) <;> repeat (first | (refine rest_vc ?_; conv => whnf) | (refine ⟨by decide, ?_⟩; conv => whnf))
  · rw [h1] at hw
    simp only [Bool.false_eq_true, if_false] at hw
    refine CallIn.to (rbyteAt_ok s j hs (by omega)) (k := ?_)
    conv => whnf
    repeat (first | (refine rest_vc ?_; conv => whnf) | (refine ⟨by decide, ?_⟩; conv => whnf))
    split <;> rename_i h2 <;> (conv => whnf) <;> repeat (first | (refine rest_vc ?_; conv => whnf) | (refine ⟨by decide, ?_⟩; conv => whnf))
    · have h2 : ((atB s.toList j : Nat) : Int) = 46 := beq_iff_eq.1 h2
      have h2' : (atB s.toList j == 46) = true := by rw [beq_iff_eq]; omega
      rw [h2', Bool.true_and] at hw
      have hjs : j < s.size := by
        by_cases hh : j < s.size
        · exact hh
        · rw [atB_out (by omega)] at h2; cases h2
      rw [show IntKind.i64.wrap ((j : Int) + 1) = ((j + 1 : Nat) : Int) from succ64 (by omega)]
      refine CallIn.to (rbyteAt_ok s (j + 1) hs (by omega)) (k := ?_)
      conv => whnf
      repeat (first | (refine rest_vc ?_; conv => whnf) | (refine ⟨by decide, ?_⟩; conv => whnf))
      refine CallIn.tob ((risPrt_ok (atB s.toList (j + 1)))) (k := ?_)
      intro b h3
      cases b <;> (conv => whnf) <;> repeat (first | (refine rest_vc ?_; conv => whnf) | (refine ⟨by decide, ?_⟩; conv => whnf))
      · rw [h3] at hw
        exact ⟨rfl, congrArg (fun n : Nat => vI .i64 n) (hw.symm.trans hc)⟩
      · rw [h3, if_pos rfl] at hw
        have hj2 : j + 1 < s.size := by
          by_cases hh : j + 1 < s.size
          · exact hh
          · rw [atB_out (by omega)] at h3; cases h3
        exact ⟨j + 2, fun _ => 0, ⟨by omega, hw.symm.trans hc⟩, by omega, rfl, ⟨rfl, congrArg (vI .i64) (by rw [w64 (by omega) (by omega)]; omega), trivial⟩, rfl, fun _ _ => rfl⟩
    · have h2 : ¬ ((atB s.toList j : Nat) : Int) = 46 := beq_eq_false_iff_ne.1 h2
      have h2' : (atB s.toList j == 46) = false := by rw [beq_eq_false_iff_ne]; omega
      rw [h2', Bool.false_and] at hw
      exact ⟨rfl, congrArg (fun n : Nat => vI .i64 n) (hw.symm.trans hc)⟩
  · rw [h1, if_pos rfl] at hw
    have hjs : j < s.size := by
      by_cases hh : j < s.size
      · exact hh
      · rw [atB_out (by omega)] at h1; cases h1
    exact ⟨j + 1, fun _ => 0, ⟨by omega, hw.symm.trans hc⟩, by omega, rfl, ⟨rfl, congrArg (vI .i64) (succ64 (by omega)), trivial⟩, rfl, fun _ _ => rfl⟩

theorem isW43 : IsW 69 := by
  intro s hs
  have hsz := size_toList s
  have hem : (s.toList == noS.toList) = s.toList.isEmpty := by
    rw [show noS.toList = [] by rw [ByteArray.toList_eq]; rfl]
    cases s.toList <;> rfl
  have hd : isWordB s = ((((!(s.toList == noS.toList)) && isLet (atB s.toList 0)) && (wEnd s.toList s.toList.length 1 == s.toList.length)) && decide (s.toList.length ≤ 16)) := by unfold isWordB; rw [hem]
  refine callOk_of true 0 Tryz.func69 rfl rfl (Nat.le_refl _) ?_
  conv => whnf
  repeat (first | (refine rest_vc ?_; conv => whnf) | (refine ⟨by decide, ?_⟩; conv => whnf))
  split <;> rename_i h1 <;> (conv => whnf) <;> repeat (first | (refine rest_vc ?_; conv => whnf) | (refine ⟨by decide, ?_⟩; conv => whnf))
  · have h1' : (s.toList == noS.toList) = false := by have h1 : (!(s.toList == noS.toList)) = true := h1; simpa using h1
    have hpos : 0 < s.size := by
      rw [hem] at h1'
      rw [← hsz]
      cases hc : s.toList with
      | nil => rw [hc] at h1'; cases h1'
      | cons _ _ => simp
    rw [h1', hsz, Bool.not_false, Bool.true_and] at hd
    refine ⟨by exact ⟨by omega, by omega⟩, ?_⟩
    conv => whnf
    repeat (first | (refine rest_vc ?_; conv => whnf) | (refine ⟨by decide, ?_⟩; conv => whnf))
    rw [byteAt_atB]
    refine CallIn.tob ((risLet_ok (atB s.toList 0))) (k := ?_)
    intro b h2
    cases b <;> (conv => whnf) <;> repeat (first | (refine rest_vc ?_; conv => whnf) | (refine ⟨by decide, ?_⟩; conv => whnf))
    · rw [h2] at hd
      exact ⟨rfl, congrArg vB (by rw [hd]; rfl)⟩
    · rw [h2, Bool.true_and] at hd
      have hc := rword_ok s 0 hs hpos
      rw [show s.size - (0 + 1) + 1 = s.size by omega] at hc
      refine CallIn.to (hc) (k := ?_)
      conv => whnf
      repeat (first | (refine rest_vc ?_; conv => whnf) | (refine ⟨by decide, ?_⟩; conv => whnf))
      split <;> rename_i h3 <;> (conv => whnf) <;> repeat (first | (refine rest_vc ?_; conv => whnf) | (refine ⟨by decide, ?_⟩; conv => whnf))
      · have h3 : ((wEnd s.toList s.size 1 : Nat) : Int) = (s.size : Int) := beq_iff_eq.1 h3
        rw [show (wEnd s.toList s.size 1 == s.size) = true by rw [beq_iff_eq]; omega, Bool.true_and] at hd
        split <;> rename_i h4 <;> (conv => whnf) <;> repeat (first | (refine rest_vc ?_; conv => whnf) | (refine ⟨by decide, ?_⟩; conv => whnf))
        · have h4 := of_decide_eq_true h4
          exact ⟨rfl, congrArg vB (by rw [hd]; exact (decide_eq_true (by omega)).symm)⟩
        · have h4 := of_decide_eq_false h4
          exact ⟨rfl, congrArg vB (by rw [hd]; exact (decide_eq_false (by omega)).symm)⟩
      · have h3 : ¬ ((wEnd s.toList s.size 1 : Nat) : Int) = (s.size : Int) := beq_eq_false_iff_ne.1 h3
        rw [show (wEnd s.toList s.size 1 == s.size) = false by rw [beq_eq_false_iff_ne]; omega] at hd
        exact ⟨rfl, congrArg vB (by rw [hd]; rfl)⟩
  · have h1' : (s.toList == noS.toList) = true := by have h1 : (!(s.toList == noS.toList)) = false := h1; simpa using h1
    rw [h1'] at hd
    exact ⟨rfl, congrArg vB (by rw [hd]; rfl)⟩
end Go.Proofs.YtafngalmkblipaaGreatDoor
/- law10: the library's sort of texts, laid at this program. -/
set_option linter.all false
set_option maxHeartbeats 4000000
set_option maxRecDepth 100000
namespace Go.Proofs
def YtafngalmkblipaaGreatDoor.lays192_ren : Go.Shelf.Ren := ⟨fun | 192 => 72 | 190 => 84 | 125 => 101 | 258 => 105 | 128 => 133 | 129 => 134 | 302 => 135 | 303 => 136 | 304 => 137 | 305 => 138 | 306 => 139 | 307 => 140 | 308 => 141 | 309 => 142 | 310 => 143 | 333 => 167 | 329 => 163 | 330 => 164 | 334 => 168 | 335 => 169 | 336 => 102 | 344 => 181 | n => n, fun | 31 => 54 | 0 => 0 | 9 => 9 | 3 => 3 | 46 => 137 | 51 => 69 | 53 => 173 | 4 => 4 | 183 => 180 | 182 => 179 | 131 => 184 | 5 => 5 | 218 => 210 | 222 => 214 | 228 => 221 | 229 => 222 | n => n, fun | n => n⟩
theorem YtafngalmkblipaaGreatDoor.lays192 : Go.Proofs.Lays.n192 Tryz.prog YtafngalmkblipaaGreatDoor.lays192_ren := {
  mixed := by kernel_rfl
  f125 := Tryz.func101.trans (congrArg some (by kernel_rfl))
  f128 := Tryz.func133.trans (congrArg some (by kernel_rfl))
  f129 := Tryz.func134.trans (congrArg some (by kernel_rfl))
  f190 := Tryz.func84.trans (congrArg some (by kernel_rfl))
  f192 := Tryz.func72.trans (congrArg some (by kernel_rfl))
  f258 := Tryz.func105.trans (congrArg some (by kernel_rfl))
  f302 := Tryz.func135.trans (congrArg some (by kernel_rfl))
  f303 := Tryz.func136.trans (congrArg some (by kernel_rfl))
  f304 := Tryz.func137.trans (congrArg some (by kernel_rfl))
  f305 := Tryz.func138.trans (congrArg some (by kernel_rfl))
  f306 := Tryz.func139.trans (congrArg some (by kernel_rfl))
  f307 := Tryz.func140.trans (congrArg some (by kernel_rfl))
  f308 := Tryz.func141.trans (congrArg some (by kernel_rfl))
  f309 := Tryz.func142.trans (congrArg some (by kernel_rfl))
  f310 := Tryz.func143.trans (congrArg some (by kernel_rfl))
  f329 := Tryz.func163.trans (congrArg some (by kernel_rfl))
  f330 := Tryz.func164.trans (congrArg some (by kernel_rfl))
  f333 := Tryz.func167.trans (congrArg some (by kernel_rfl))
  f334 := Tryz.func168.trans (congrArg some (by kernel_rfl))
  f335 := Tryz.func169.trans (congrArg some (by kernel_rfl))
  f336 := Tryz.func102.trans (congrArg some (by kernel_rfl))
  f344 := Tryz.func181.trans (congrArg some (by kernel_rfl))
  t0 := Tryz.underlying0
  a0 := Tryz.isAgg0
  z0 := Tryz.sizeOf0
  v0 := Tryz.zeroValue0
  t3 := Tryz.underlying3
  a3 := Tryz.isAgg3
  z3 := Tryz.sizeOf3
  v3 := Tryz.zeroValue3
  t4 := Tryz.underlying4
  a4 := Tryz.isAgg4
  z4 := Tryz.sizeOf4
  v4 := Tryz.zeroValue4
  t5 := Tryz.underlying5
  a5 := Tryz.isAgg5
  z5 := Tryz.sizeOf5
  v5 := Tryz.zeroValue5
  t9 := Tryz.underlying9
  a9 := Tryz.isAgg9
  z9 := Tryz.sizeOf9
  v9 := Tryz.zeroValue9
  t31 := Tryz.underlying54
  a31 := Tryz.isAgg54
  z31 := Tryz.sizeOf54
  v31 := Tryz.zeroValue54
  t46 := Tryz.underlying137
  a46 := Tryz.isAgg137
  z46 := Tryz.sizeOf137
  v46 := Tryz.zeroValue137
  t51 := Tryz.underlying69
  a51 := Tryz.isAgg69
  z51 := Tryz.sizeOf69
  v51 := Tryz.zeroValue69
  t53 := Tryz.underlying173
  a53 := Tryz.isAgg173
  z53 := Tryz.sizeOf173
  v53 := Tryz.zeroValue173
  t131 := Tryz.underlying184
  a131 := Tryz.isAgg184
  z131 := Tryz.sizeOf184
  v131 := Tryz.zeroValue184
  t182 := Tryz.underlying179
  a182 := Tryz.isAgg179
  z182 := Tryz.sizeOf179
  v182 := Tryz.zeroValue179
  t183 := Tryz.underlying180
  a183 := Tryz.isAgg180
  z183 := Tryz.sizeOf180
  v183 := Tryz.zeroValue180
  t218 := Tryz.underlying210
  a218 := Tryz.isAgg210
  z218 := Tryz.sizeOf210
  v218 := Tryz.zeroValue210
  t222 := Tryz.underlying214
  a222 := Tryz.isAgg214
  z222 := Tryz.sizeOf214
  v222 := Tryz.zeroValue214
  t228 := Tryz.underlying221
  a228 := Tryz.isAgg221
  z228 := Tryz.sizeOf221
  v228 := Tryz.zeroValue221
  t229 := Tryz.underlying222
  a229 := Tryz.isAgg222
  z229 := Tryz.sizeOf222
  v229 := Tryz.zeroValue222 }
end Go.Proofs
namespace Go.Proofs.YtafngalmkblipaaGreatDoor
open Go Go.RowKit Go.Sy Go.Proofs Go.Sort

theorem bytesLess_lt : ∀ (x y : List UInt8), Op.bytesLess x y = decide (x < y)
  | [], [] => by simp [Op.bytesLess]
  | _ :: _, [] => by simp [Op.bytesLess]
  | [], _ :: _ => by simp [Op.bytesLess]
  | a :: x, b :: y => by
    rw [Op.bytesLess, bytesLess_lt x y]
    simp only [List.cons_lt_cons_iff]
    by_cases h1 : a < b <;> by_cases h2 : a = b <;> by_cases h3 : x < y <;> simp [h1, h2, h3]
theorem leBA_le (a b : ByteArray) : leBA a b = decide (a.data.toList ≤ b.data.toList) := by
  unfold leBA
  rw [ByteArray.toList_eq, ByteArray.toList_eq, bytesLess_lt, Bool.eq_iff_iff]
  simp only [Bool.or_eq_true, decide_eq_true_eq, beq_iff_eq]
  exact List.le_iff_lt_or_eq.symm
theorem srtS_data (l : List ByteArray) : (srtS l).map (·.data.toList) = (l.map (·.data.toList)).mergeSort fun x y => decide (x ≤ y) := by
  unfold srtS
  exact List.map_mergeSort fun a _ b _ => leBA_le a b
theorem enc_data (b : ByteArray) : encStr b.data.toList = .string b := rfl
theorem RF_strs {χ : Nat → Color} {w : World} : ∀ {l : List ByteArray} {us : List Value}, RF χ w 1 (l.map pvB) us → us = (l.map (·.data.toList)).map encStr
  | [], us, h => h
  | x :: l, us, ⟨u, r, h1, h2, h3, h4, h5⟩ => by
    have h4 : u = .string x := h4
    subst h4
    rw [h1, RF_strs h5]
    rfl
theorem RF_of_strs {χ : Nat → Color} {w : World} : ∀ (l : List ByteArray), RF χ w 1 (l.map pvB) ((l.map (·.data.toList)).map encStr)
  | [] => rfl
  | x :: l => ⟨.string x, _, rfl, rfl, fun y hy => by simp [Value.cells] at hy; subst hy; rfl, rfl, RF_of_strs l⟩

theorem fn46 : isFn Tryz.prog 72 := ⟨_, Tryz.func72, rfl, rfl⟩
theorem sort46 : SortS 72 := by
  intro v nl l hne hl χ G w vs _ hargs hst hG
  obtain ⟨u, r, rfl, ⟨hone, m, hd, hg, hle, hu⟩, hr⟩ := hargs
  have hr : r = [] := hr
  subst hr
  obtain ⟨hd', us, hG', hown, hf, hnl, hcol⟩ := hst 0 _ rfl
  rw [hg] at hG'
  cases hG'
  have hu := hu rfl
  subst hu
  have hus := RF_strs hf
  subst hus
  obtain ⟨ss, hss⟩ : ∃ ss, ss = l.map (·.data.toList) := ⟨_, rfl⟩
  have hlen : ss.length = l.length := by rw [hss, List.length_map]
  rw [← hss] at hown hf
  rw [List.length_map, ← hlen] at hown
  have hpos : 0 < ss.length := by rw [hlen]; exact List.length_pos_iff.2 hne
  obtain ⟨hown1, hrow⟩ := hown
  rcases hrow with ⟨_, h0⟩ | ⟨g, c, cur, rfl, hbase, hb, h1, h2, h3, h4⟩
  · omega
  have hgl : g < w.heap.size := (Array.getElem?_eq_some_iff.1 hb).1
  have hcg : χ g = .own 0 := hcol g rfl
  have hH : Holds encStr w g 0 ss.toArray := holds_of_block hb (by simpa using h4)
  have hc := Any.sort_Strings YtafngalmkblipaaGreatDoor.lays192 g 0 c ss w hH hgl (by omega)
  refine .inl ⟨fn46, hc.mono ?_⟩
  rintro e w' ⟨rfl, n, os, rfl⟩
  have hgb := grownBy_sorted (w := w) (g := g) (n := n) (os := os) (ss.mergeSort fun x y => decide (x ≤ y)).toArray
  have hro := ownsRow_sorted (w := w) (base := 0) (g := g) (cap := c) (n := n) (os := os) (ss := ss) (ts := ss.mergeSort fun x y => decide (x ≤ y)) (by simp) hbase hb h1 h2 h3
  obtain ⟨b1, b2, b3, b4, b5⟩ := hgb
  have hsd : (srtS l).map (·.data.toList) = ss.mergeSort fun x y => decide (x ≤ y) := by rw [srtS_data, hss]
  refine ⟨.tup [], _, _, χ, G, ⟨rfl, rfl⟩, rfl, ⟨[], rfl, rfl⟩, ?_, ⟨b1, b2, b3, b4, fun b hlt hi => ⟨hi, b5 b hlt fun e => ?_⟩, fun b hlt hi => ⟨hi, b5 b hlt fun e => ?_⟩⟩, Nat.le_refl _, fun o ho => ⟨fun g h => h, fun n hd hh => ⟨n, hd, hh, Nat.le_refl _, fun _ => rfl⟩⟩, hG⟩
  · intro o ob ho
    cases o with
    | zero =>
      cases ho
      refine ⟨_, (ss.mergeSort fun x y => decide (x ≤ y)).map encStr, hg, ?_, ?_, hnl, hcol⟩
      · rw [List.length_map]
        have e1 : (srtS l).length = ss.length := by rw [(srtS_perm l).length_eq, hlen]
        rw [e1]
        exact hro
      · have := RF_of_strs (χ := χ) (w := grow (putRow encStr (Sort.ahead w n) g 0 (ss.mergeSort fun x y => decide (x ≤ y)).toArray) os) (srtS l)
        rw [hsd] at this
        exact this
    | succ o => simp at ho
  · cases e; rw [hcg] at hi; cases hi
  · cases e; rw [hcg] at hi; cases hi
end Go.Proofs.YtafngalmkblipaaGreatDoor
/- law10: the program's words: the scanner. -/
set_option linter.all false
set_option maxHeartbeats 4000000
set_option maxRecDepth 100000
namespace Go.Proofs.YtafngalmkblipaaGreatDoor
open Go Go.RowKit Go.Sy Go.Proofs

abbrev i64s (l : List Int) : List PV := l.map fun n => .val (.int .i64 n)
def eqI (v x : Int) : Bool := v == x
def hasI (l : List Int) (v : Int) : Bool := decide (0 ≤ fstI (eqI v) l 0)
theorem index_ok (nl : Bool) (l : List Int) (v : Int) (hl : (l.length : Int) ≤ 2000000) : CallOk Tryz.prog 190 [.pure (.list 1 nl (i64s l)), vI .i64 v] [] fun r st' => st' = [] ∧ r = vI .i64 (fstI (eqI v) l 0) := by
  have e1 : (i64s l).length = l.length := List.length_map ..
  refine callOk_of true 0 Tryz.func190 rfl rfl (Nat.le_refl _) ?_
  conv => whnf
  repeat (first | (refine rest_vc ?_; conv => whnf) | (refine ⟨by decide, ?_⟩; conv => whnf))
  intro _
  conv => whnf
  repeat (first | (refine rest_vc ?_; conv => whnf) | (refine ⟨by decide, ?_⟩; conv => whnf))
  refine awp_loop (n := 19) (α := Nat) (fun i => i ≤ l.length ∧ fstI (eqI v) (l.drop i) i = fstI (eqI v) l 0) (fun i => [(0, .pure (.list 1 nl (i64s l))), (1, vI .i64 v), (7, vI .i64 (l.length : Nat)), (8, vI .i64 i)])
    (fun _ => []) (fun i => l.length - i) 0 (fun _ => 0)
    ⟨Nat.zero_le _, rfl⟩ rfl ⟨rfl, rfl, congrArg (vI .i64) (by rw [e1]), rfl, trivial⟩ rfl (fun _ _ => rfl) (fun _ => ⟨Nat.le_refl _, rfl, rfl⟩) ?_
  rintro i ⟨hi, hc⟩
  conv => whnf
  repeat (first | (refine rest_vc ?_; conv => whnf) | (refine ⟨by decide, ?_⟩; conv => whnf))
  split <;> rename_i h <;> (conv => whnf) <;> repeat (first | (refine rest_vc ?_; conv => whnf) | (refine ⟨by decide, ?_⟩; conv => whnf))
  · have h := of_decide_eq_true h
    have hlt : i < l.length := by omega
    refine ⟨⟨by omega, by show (i : Int) < ((i64s l).length : Int); omega⟩, fun p hp => ?_⟩
    rw [List.getElem?_map, Option.map_eq_some_iff] at hp
    obtain ⟨q, hq, rfl⟩ := hp
    have hq : l[i]? = some q := by simpa using hq
    conv => whnf
    repeat (first | (refine rest_vc ?_; conv => whnf) | (refine ⟨by decide, ?_⟩; conv => whnf))
    split <;> rename_i h2 <;> (conv => whnf) <;> repeat (first | (refine rest_vc ?_; conv => whnf) | (refine ⟨by decide, ?_⟩; conv => whnf))
    · exact ⟨rfl, congrArg (vI .i64) (by rw [← hc, fstI_at hq, if_pos (show eqI v q = true from h2)])⟩
    · refine ⟨i + 1, fun _ => 0, ⟨hlt, ?_⟩, ?_, rfl, ⟨rfl, rfl, rfl, congrArg (vI .i64) ?_, trivial⟩, rfl, fun _ _ => rfl⟩
      · rw [← hc, fstI_at hq, if_neg (by rw [show eqI v q = false from h2]; decide)]
      · omega
      · rw [w64 (by omega) (by omega)]; omega
  · have h := of_decide_eq_false h
    exact ⟨rfl, congrArg (vI .i64) (by rw [← hc, fstI_end (by omega)])⟩
theorem contains_ok (nl : Bool) (l : List Int) (v : Int) (hl : (l.length : Int) ≤ 2000000) : CallOk Tryz.prog 185 [.pure (.list 1 nl (i64s l)), vI .i64 v] [] fun r st' => st' = [] ∧ r = vB (hasI l v) := by
  refine callOk_of true 0 Tryz.func185 rfl rfl (Nat.le_refl _) ?_
  conv => whnf
  repeat (first | (refine rest_vc ?_; conv => whnf) | (refine ⟨by decide, ?_⟩; conv => whnf))
  refine CallIn.to (index_ok nl l v hl) (k := ?_)
  conv => whnf
  repeat (first | (refine rest_vc ?_; conv => whnf) | (refine ⟨by decide, ?_⟩; conv => whnf))
  split <;> rename_i h <;> (conv => whnf) <;> repeat (first | (refine rest_vc ?_; conv => whnf) | (refine ⟨by decide, ?_⟩; conv => whnf))
  · exact ⟨rfl, congrArg vB h.symm⟩
  · exact ⟨rfl, congrArg vB h.symm⟩

/-- The class of a byte. -/
def clsN (c : Nat) : Nat :=
  if c == 32 || c == 9 || c == 10 then 1 else if isLet c then 2 else if isDig c then 3 else if decide (32 < c) && decide (c < 127) then 4 else 0
def clsP : List PV := (List.range 256).map fun c => .val (.int .i64 (clsN c : Nat))
def scX (s : ByteArray) (p : Int) (sg : PV) : List PV := .val (.string s) :: .val (.int .i64 p) :: (clsP ++ [sg])
abbrev scR (s : ByteArray) (p : Int) (sg : PV) : Ob := .row 201 259 (scX s p sg)
theorem clsP_get {c : Nat} (h : c < 256) : clsP[c]? = some (.val (.int .i64 (clsN c : Nat))) := by
  unfold clsP
  rw [List.getElem?_map, List.getElem?_range h]
  rfl
theorem scX_cls {s : ByteArray} {p : Int} {sg : PV} {c : Nat} (h : c < 256) : (scX s p sg)[2 + c]? = some (.val (.int .i64 (clsN c : Nat))) := by
  unfold scX
  rw [show 2 + c = (c + 1) + 1 by omega, List.getElem?_cons_succ, List.getElem?_cons_succ, List.getElem?_append_left (by simp [clsP]; exact h)]
  exact clsP_get h
theorem atB_lt (l : List UInt8) (i : Nat) : atB l i < 256 := by unfold atB; exact (l.getD i 0).toNat_lt

/-- Is the byte at a place of one of some classes? -/
def isC (s : ByteArray) (i : Nat) (l : List Int) : Bool := decide (i < s.size) && hasI l (clsN (atB s.toList i) : Nat)
theorem is_ok (s : ByteArray) (p : Int) (sg : PV) (i : Nat) (nl : Bool) (l : List Int) (hl : (l.length : Int) ≤ 2000000) (hs : (s.size : Int) ≤ 2000000) (hi : (i : Int) ≤ 3000000) :
    CallOk Tryz.prog 173 [.ptr 0 0, vI .i64 (i : Int), .pure (.list 1 nl (i64s l))] [scR s p sg] fun r st' => r = vB (isC s i l) ∧ st' = [scR s p sg] := by
  refine callOk_of false 1 Tryz.func173 rfl rfl (Nat.le_refl _) ?_
  conv => whnf
  repeat (refine ⟨by decide, ?_⟩; conv => whnf)
  refine rest_vc ?_
  conv => whnf
  repeat (refine ⟨by decide, ?_⟩; conv => whnf)
  refine hand_draw [] (fun _ x => x = vB (hasI l (clsN (atB s.toList i) : Nat))) rfl (by kernel_rfl) rfl ?_
  conv => whnf
  repeat (first | (refine rest_vc ?_; conv => whnf) | (refine ⟨by decide, ?_⟩; conv => whnf))
  intro q hq
  obtain rfl : PV.val (.string s) = q := Option.some.inj hq
  conv => whnf
  repeat (first | (refine rest_vc ?_; conv => whnf) | (refine ⟨by decide, ?_⟩; conv => whnf))
  split <;> rename_i h1 <;> (conv => whnf) <;> repeat (first | (refine rest_vc ?_; conv => whnf) | (refine ⟨by decide, ?_⟩; conv => whnf))
  · have h1 := of_decide_eq_true h1
    have hb := atB_lt s.toList i
    intro q hq
    obtain rfl : PV.val (.string s) = q := Option.some.inj hq
    conv => whnf
    repeat (first | (refine rest_vc ?_; conv => whnf) | (refine ⟨by decide, ?_⟩; conv => whnf))
    refine ⟨⟨by omega, by omega⟩, ?_⟩
    rw [show byteAt s (i : Int).toNat = ((atB s.toList i : Nat) : Int) from byteAt_atB s i]
    conv => whnf
    repeat (first | (refine rest_vc ?_; conv => whnf) | (refine ⟨by decide, ?_⟩; conv => whnf))
    refine ⟨⟨by omega, by omega⟩, ?_⟩
    conv => whnf
    repeat (first | (refine rest_vc ?_; conv => whnf) | (refine ⟨by decide, ?_⟩; conv => whnf))
    refine ⟨(by show 0 + 2 + ((atB s.toList i : Nat) : Int).toNat * 1 < 259; omega), fun q hq => ?_⟩
    have hq : (scX s p sg)[0 + 2 + ((atB s.toList i : Nat) : Int).toNat * 1]? = some q := hq
    rw [show 0 + 2 + ((atB s.toList i : Nat) : Int).toNat * 1 = 2 + atB s.toList i by omega, scX_cls hb] at hq
    obtain rfl := Option.some.inj hq
    conv => whnf
    repeat (first | (refine rest_vc ?_; conv => whnf) | (refine ⟨by decide, ?_⟩; conv => whnf))
    refine CallIn.dto (contains_ok nl l _ hl) (k := ?_)
    conv => whnf
    repeat (first | (refine rest_vc ?_; conv => whnf) | (refine ⟨by decide, ?_⟩; conv => whnf))
    exact ⟨congrArg vB (by unfold isC; rw [decide_eq_true (by omega)]; rfl), rfl⟩
  · have h1 := of_decide_eq_false h1
    conv => whnf
    repeat (first | (refine rest_vc ?_; conv => whnf) | (refine ⟨by decide, ?_⟩; conv => whnf))
    exact ⟨congrArg vB (by unfold isC; rw [decide_eq_false (by omega)]; rfl), rfl⟩

/-- The first place from one on whose byte is of none of some classes. -/
def bhd (s : ByteArray) (l : List Int) : Nat → Nat → Nat
  | 0, i => i
  | f + 1, i => if isC s i l then bhd s l f (i + 1) else i
abbrev bhdN (s : ByteArray) (l : List Int) (i : Nat) : Nat := bhd s l (s.size - i) i
theorem isC_out {s : ByteArray} {i : Nat} {l : List Int} (h : s.size ≤ i) : isC s i l = false := by unfold isC; rw [decide_eq_false (by omega)]; rfl
theorem bhdN_at (s : ByteArray) (l : List Int) (i : Nat) : bhdN s l i = if isC s i l then bhdN s l (i + 1) else i := by
  unfold bhdN
  by_cases h : i < s.size
  · rw [show s.size - i = (s.size - (i + 1)) + 1 by omega, bhd]
  · rw [show s.size - i = 0 by omega, bhd, isC_out (by omega)]; rfl
theorem bhdN_ge (s : ByteArray) (l : List Int) : ∀ (f i : Nat), s.size - i = f → i ≤ bhdN s l i ∧ (i ≤ s.size → bhdN s l i ≤ s.size)
  | 0, i, h => by
    rw [bhdN_at, isC_out (by omega)]
    exact ⟨Nat.le_refl _, fun h => h⟩
  | f + 1, i, h => by
    rw [bhdN_at]
    split
    · have := bhdN_ge s l f (i + 1) (by omega)
      exact ⟨by omega, fun _ => this.2 (by omega)⟩
    · exact ⟨Nat.le_refl _, fun h => h⟩

theorem behind_ok (s : ByteArray) (p : Int) (sg : PV) (i : Nat) (nl : Bool) (l : List Int) (hl : (l.length : Int) ≤ 2000000) (hs : (s.size : Int) ≤ 2000000) (hi : (i : Int) ≤ 2500000) :
    CallOk Tryz.prog 171 [.ptr 0 0, vI .i64 (i : Int), .pure (.list 1 nl (i64s l))] [scR s p sg] fun r st' => r = vI .i64 (bhdN s l i : Nat) ∧ st' = [scR s p sg] := by
  refine callOk_of false 1 Tryz.func171 rfl rfl (Nat.le_refl _) ?_
  conv => whnf
  repeat (first | (refine rest_vc ?_; conv => whnf) | (refine ⟨by decide, ?_⟩; conv => whnf))
  refine awp_loop (n := 14) (α := Nat) (fun j => (j : Int) ≤ 2500000 ∧ bhdN s l j = bhdN s l i) (fun j => [(0, .ptr 0 0), (1, vI .i64 j), (2, .pure (.list 1 nl (i64s l)))])
    (fun _ => [scR s p sg]) (fun j => s.size - j) i (fun _ => 0) ⟨hi, rfl⟩ rfl ⟨rfl, rfl, rfl, trivial⟩ rfl (fun _ _ => rfl) (fun _ => ⟨Nat.le_refl _, rfl, rfl⟩) ?_
  rintro j ⟨hj, hc⟩
  have ha := bhdN_at s l j
  have hj3 : ∀ h : isC s j l = true, j < s.size := fun h => by
    by_cases hh : j < s.size
    · exact hh
    · rw [isC_out (by omega)] at h; cases h
  have hcall := is_ok s p sg j nl l hl hs (by omega)
  generalize hb : isC s j l = b at *
  conv => whnf
  repeat (first | (refine rest_vc ?_; conv => whnf) | (refine ⟨by decide, ?_⟩; conv => whnf))
  refine CallIn.o [0] (hcall) (k := ?_)
  rintro r st' ⟨rfl, rfl⟩
  conv => whnf
  repeat (first | (refine rest_vc ?_; conv => whnf) | (refine ⟨by decide, ?_⟩; conv => whnf))
  cases b with
  | true =>
    conv => whnf
    repeat (first | (refine rest_vc ?_; conv => whnf) | (refine ⟨by decide, ?_⟩; conv => whnf))
    have := hj3 rfl
    rw [if_pos rfl] at ha
    exact ⟨j + 1, fun _ => 0, ⟨by omega, ha.symm.trans hc⟩, by omega, rfl, ⟨rfl, congrArg (vI .i64) (succ64 (by omega)), rfl, trivial⟩, rfl, fun _ _ => rfl⟩
  | false =>
    conv => whnf
    repeat (first | (refine rest_vc ?_; conv => whnf) | (refine ⟨by decide, ?_⟩; conv => whnf))
    rw [if_neg (by decide)] at ha
    exact ⟨congrArg (fun n : Nat => vI .i64 n) (ha.symm.trans hc), rfl⟩

/-! ## prefixes -/
def hasP (a b : ByteArray) : Bool := decide (b.size ≤ a.size) && eqBA (a.extract 0 b.size) b
theorem hasPl_ok (a b : ByteArray) (ha : (a.size : Int) ≤ 2000000) (hb : (b.size : Int) ≤ 2000000) : CallOk Tryz.prog 184 [vS a, vS b] [] fun r st' => st' = [] ∧ r = vB (hasP a b) := by
  refine callOk_of true 0 Tryz.func184 rfl rfl (Nat.le_refl _) ?_
  conv => whnf
  repeat (first | (refine rest_vc ?_; conv => whnf) | (refine ⟨by decide, ?_⟩; conv => whnf))
  split <;> rename_i h1 <;> (conv => whnf) <;> repeat (first | (refine rest_vc ?_; conv => whnf) | (refine ⟨by decide, ?_⟩; conv => whnf))
  · have h1 := of_decide_eq_true h1
    refine ⟨by exact ⟨by omega, by omega⟩, ?_⟩
    conv => whnf
    repeat (first | (refine rest_vc ?_; conv => whnf) | (refine ⟨by decide, ?_⟩; conv => whnf))
    have hd : hasP a b = eqBA (a.extract 0 b.size) b := by unfold hasP; rw [decide_eq_true (by omega)]; rfl
    have e : (b.size : Int).toNat = b.size := rfl
    split <;> rename_i h2 <;> (conv => whnf) <;> repeat (first | (refine rest_vc ?_; conv => whnf) | (refine ⟨by decide, ?_⟩; conv => whnf))
    · exact ⟨rfl, congrArg vB (by rw [hd]; exact (show eqBA (a.extract 0 b.size) b = true from h2).symm)⟩
    · exact ⟨rfl, congrArg vB (by rw [hd]; exact (show eqBA (a.extract 0 b.size) b = false from h2).symm)⟩
  · have h1 := of_decide_eq_false h1
    exact ⟨rfl, congrArg vB (by unfold hasP; rw [decide_eq_false (by omega)]; rfl)⟩
theorem hasP_ok (a b : ByteArray) (ha : (a.size : Int) ≤ 2000000) (hb : (b.size : Int) ≤ 2000000) : CallOk Tryz.prog 172 [vS a, vS b] [] fun r st' => st' = [] ∧ r = vB (hasP a b) := by
  refine callOk_of true 0 Tryz.func172 rfl rfl (Nat.le_refl _) ?_
  conv => whnf
  repeat (first | (refine rest_vc ?_; conv => whnf) | (refine ⟨by decide, ?_⟩; conv => whnf))
  refine CallIn.to (hasPl_ok a b ha hb) (k := ?_)
  conv => whnf
  repeat (first | (refine rest_vc ?_; conv => whnf) | (refine ⟨by decide, ?_⟩; conv => whnf))
  exact ⟨rfl, rfl⟩

/-! ## words -/
/-- Where a word ends, from a place within it on. -/
def wdE (s : ByteArray) : Nat → Nat → Nat
  | 0, i => i
  | f + 1, i => if decide (i < s.size) && (atB s.toList i == 46) && isC s (i + 1) [2, 3] then wdE s f (bhdN s [2, 3] (i + 1)) else i
abbrev wdN (s : ByteArray) (i : Nat) : Nat := wdE s (s.size - i) i
theorem wdE_more (s : ByteArray) : ∀ (f i : Nat), s.size ≤ i + f → wdE s f i = wdE s (f + 1) i
  | 0, i, h => by
    rw [wdE, wdE, decide_eq_false (by omega)]; rfl
  | f + 1, i, h => by
    rw [wdE, wdE]
    have := bhdN_ge s [2, 3] (s.size - (i + 1)) (i + 1) rfl
    rw [wdE_more s f (bhdN s [2, 3] (i + 1)) (by omega)]
theorem wdN_at (s : ByteArray) (i : Nat) : wdN s i = if decide (i < s.size) && (atB s.toList i == 46) && isC s (i + 1) [2, 3] then wdN s (bhdN s [2, 3] (i + 1)) else i := by
  unfold wdN
  have more : ∀ (j f g : Nat), s.size ≤ j + f → wdE s f j = wdE s (f + g) j := by
    intro j f g
    induction g with
    | zero => intro _; rfl
    | succ g ih => intro h; rw [ih h, wdE_more s (f + g) j (by omega)]; rfl
  by_cases h : i < s.size
  · rw [show s.size - i = (s.size - (i + 1)) + 1 by omega, wdE]
    have hg := bhdN_ge s [2, 3] (s.size - (i + 1)) (i + 1) rfl
    have e := more (bhdN s [2, 3] (i + 1)) (s.size - bhdN s [2, 3] (i + 1)) (bhdN s [2, 3] (i + 1) - (i + 1)) (by omega)
    by_cases h2 : bhdN s [2, 3] (i + 1) ≤ s.size
    · rw [e, show s.size - bhdN s [2, 3] (i + 1) + (bhdN s [2, 3] (i + 1) - (i + 1)) = s.size - (i + 1) by omega]
    · have := hg.2 (by omega)
      omega
  · rw [show s.size - i = 0 by omega, wdE, decide_eq_false (by omega)]; rfl
theorem wdN_ge (s : ByteArray) : ∀ (f i : Nat), s.size - i ≤ f → i ≤ wdN s i ∧ (i ≤ s.size → wdN s i ≤ s.size)
  | 0, i, h => by
    rw [wdN_at, decide_eq_false (by omega)]
    exact ⟨Nat.le_refl _, fun h => h⟩
  | f + 1, i, h => by
    rw [wdN_at]
    split
    · rename_i hc
      simp only [Bool.and_eq_true, decide_eq_true_eq] at hc
      have hg := bhdN_ge s [2, 3] (s.size - (i + 1)) (i + 1) rfl
      have := wdN_ge s f (bhdN s [2, 3] (i + 1)) (by omega)
      exact ⟨by omega, fun _ => this.2 (hg.2 (by omega))⟩
    · exact ⟨Nat.le_refl _, fun h => h⟩
/-- A word's token. -/
def tkW (x : ByteArray) : PV := .agg [.val (.int .i64 0), .val (.int .i64 0), .val (.int .i64 0), .val (.string x)]
theorem word_ok (s : ByteArray) (p : Nat) (sg : PV) (hs : (s.size : Int) ≤ 1000000) (hp : p ≤ s.size) :
    CallOk Tryz.prog 174 [.ptr 0 0] [scR s p sg] fun r st' => r = .tup [.pure (tkW (s.extract p (wdN s (bhdN s [2, 3] p)))), vB (decide (wdN s (bhdN s [2, 3] p) - p ≤ 16))] ∧ st' = [scR s (wdN s (bhdN s [2, 3] p) : Nat) sg] := by
  have hg := bhdN_ge s [2, 3] (s.size - p) p rfl
  refine callOk_of false 1 Tryz.func174 rfl rfl (Nat.le_refl _) ?_
  conv => whnf
  repeat (first | (refine rest_vc ?_; conv => whnf) | (refine ⟨by decide, ?_⟩; conv => whnf))
  intro q hq
  obtain rfl : PV.val (.int .i64 (p : Int)) = q := Option.some.inj hq
  conv => whnf
  repeat (first | (refine rest_vc ?_; conv => whnf) | (refine ⟨by decide, ?_⟩; conv => whnf))
  refine CallIn.o [0] (behind_ok s p sg p false [2, 3] (by decide) (by omega) (by omega)) (k := ?_)
  rintro r st' ⟨rfl, rfl⟩
  conv => whnf
  repeat (first | (refine rest_vc ?_; conv => whnf) | (refine ⟨by decide, ?_⟩; conv => whnf))
  obtain ⟨e0, he0⟩ : ∃ e0, e0 = bhdN s [2, 3] p := ⟨_, rfl⟩
  rw [← he0] at hg ⊢
  have hwe := wdN_ge s (s.size - e0) e0 (Nat.le_refl _)
  refine hand_exit 0 61 (α := Unit) (fun _ => True) (fun _ => [(0, .ptr 0 0), (2, .ptr 1 0), (3, vB false), (4, vI .i64 (wdN s e0 : Nat))])
    (fun _ => [scR s p sg, .cells 145 [vI .i64 0, vI .i64 0, vI .i64 0, vS noS]]) (fun _ => ⟨(by show 1 ≤ 2; omega), rfl, rfl⟩) ?_ ?_
  rotate_left
  · rintro _ _
    obtain ⟨e, he⟩ : ∃ e, e = wdN s e0 := ⟨_, rfl⟩
    rw [← he] at hwe ⊢
    have ld0 : ∀ q, (scX s p sg)[0]? = some q → PV.val (.string s) = q := fun q hq => Option.some.inj hq
    have ld1 : ∀ q, (scX s p sg)[1]? = some q → PV.val (.int .i64 (p : Int)) = q := fun q hq => Option.some.inj hq
    refine rest_vc ?_
    conv => whnf
    repeat (first | (refine rest_vc ?_; conv => whnf) | (refine ⟨by decide, ?_⟩; conv => whnf))
    refine hand_drawL { ldc := [3, 7], kps := [11] } [11, 12] (fun _ _ => True) rfl (by kernel_rfl) rfl ?_
    conv => whnf
    repeat (first | (refine rest_vc ?_; conv => whnf) | (refine ⟨by decide, ?_⟩; conv => whnf))
    intro q hq
    obtain rfl := ld0 q hq
    conv => whnf
    repeat (first | (refine rest_vc ?_; conv => whnf) | (refine ⟨by decide, ?_⟩; conv => whnf))
    intro q hq
    obtain rfl := ld1 q hq
    conv => whnf
    repeat (first | (refine rest_vc ?_; conv => whnf) | (refine ⟨by decide, ?_⟩; conv => whnf))
    refine ⟨⟨by omega, by omega⟩, ?_⟩
    conv => whnf
    repeat (first | (refine rest_vc ?_; conv => whnf) | (refine ⟨by decide, ?_⟩; conv => whnf))
    refine ⟨⟨by omega, by omega⟩, ?_⟩
    conv => whnf
    repeat (first | (refine rest_vc ?_; conv => whnf) | (refine ⟨by decide, ?_⟩; conv => whnf))
    refine ⟨⟨.inl rfl, .inl rfl, trivial⟩, ?_⟩
    conv => whnf
    repeat (first | (refine rest_vc ?_; conv => whnf) | (refine ⟨by decide, ?_⟩; conv => whnf))
    have hsz : (s.extract p e).size = e - p := by rw [ByteArray.size_extract]; have := hwe.2 (hg.2 hp); omega
    refine hand_frc 2 rfl rfl ?_
    refine hand_drawO [0, 1, 2, 3, 5, 4, 6] { lds := [0, 2] } [5] (fun _ _ => True) rfl rfl (by kernel_rfl) (by kernel_rfl) rfl ?_
    conv => whnf
    repeat (first | (refine rest_vc ?_; conv => whnf) | (refine ⟨by decide, ?_⟩; conv => whnf))
    split <;> rename_i h3 <;> (conv => whnf) <;> repeat (first | (refine rest_vc ?_; conv => whnf) | (refine ⟨by decide, ?_⟩; conv => whnf))
    · refine ⟨?_, rfl⟩
      have h3 := of_decide_eq_true h3
      rw [decide_eq_true (show e - p ≤ 16 by have : ((s.extract p e).size : Int) ≤ 16 := h3; omega)]
      rfl
    · refine ⟨?_, rfl⟩
      have h3 := of_decide_eq_false h3
      rw [decide_eq_false (show ¬ e - p ≤ 16 by have : ¬ ((s.extract p e).size : Int) ≤ 16 := h3; omega)]
      rfl
  refine awp_loop (n := 61) (α := Nat) (fun j => p ≤ j ∧ j ≤ s.size ∧ wdN s j = wdN s e0) (fun j => [(0, .ptr 0 0), (2, .ptr 1 0), (3, vB false), (4, vI .i64 j)])
    (fun _ => [scR s p sg, .cells 145 [vI .i64 0, vI .i64 0, vI .i64 0, vS noS]]) (fun j => s.size - j) e0 (fun _ => 0) ⟨hg.1, hg.2 hp, rfl⟩ rfl ⟨rfl, rfl, rfl, rfl, trivial⟩ rfl (fun _ _ => rfl) (fun _ => ⟨(by show 1 ≤ 2; omega), rfl, rfl⟩) ?_
  rintro j ⟨hpj, hj, hc⟩
  have hw := wdN_at s j
  have ldS : ∀ q, (scX s p sg)[0]? = some q → PV.val (.string s) = q := fun q hq => Option.some.inj hq
  conv => whnf
  repeat (first | (refine rest_vc ?_; conv => whnf) | (refine ⟨by decide, ?_⟩; conv => whnf))
  intro q hq
  obtain rfl : PV.val (.string s) = q := Option.some.inj hq
  conv => whnf
  repeat (first | (refine rest_vc ?_; conv => whnf) | (refine ⟨by decide, ?_⟩; conv => whnf))
  split <;> rename_i h1 <;> (conv => whnf) <;> repeat (first | (refine rest_vc ?_; conv => whnf) | (refine ⟨by decide, ?_⟩; conv => whnf))
  · have h1 := of_decide_eq_true h1
    have hjs : j < s.size := by omega
    rw [decide_eq_true hjs, Bool.true_and] at hw
    intro q hq
    obtain rfl : PV.val (.string s) = q := Option.some.inj hq
    conv => whnf
    repeat (first | (refine rest_vc ?_; conv => whnf) | (refine ⟨by decide, ?_⟩; conv => whnf))
    refine ⟨⟨by omega, by omega⟩, ?_⟩
    rw [show byteAt s (j : Int).toNat = ((atB s.toList j : Nat) : Int) from byteAt_atB s j]
    conv => whnf
    repeat (first | (refine rest_vc ?_; conv => whnf) | (refine ⟨by decide, ?_⟩; conv => whnf))
    split <;> rename_i h2 <;> (conv => whnf) <;> repeat (first | (refine rest_vc ?_; conv => whnf) | (refine ⟨by decide, ?_⟩; conv => whnf))
    · have h2' : (atB s.toList j == 46) = true := by have : ((atB s.toList j : Nat) : Int) = 46 := beq_iff_eq.1 h2; rw [beq_iff_eq]; omega
      rw [h2', Bool.true_and] at hw
      have e1 : IntKind.i64.wrap ((j : Int) + 1) = ((j + 1 : Nat) : Int) := succ64 (by omega)
      rw [e1]
      have hcall := is_ok s p sg (j + 1) false [2, 3] (by decide) (by omega) (by omega)
      generalize hb : isC s (j + 1) [2, 3] = b at *
      refine CallIn.o [0] (hcall) (k := ?_)
      rintro r st' ⟨rfl, rfl⟩
      conv => whnf
      repeat (first | (refine rest_vc ?_; conv => whnf) | (refine ⟨by decide, ?_⟩; conv => whnf))
      cases b with
      | true =>
        rw [if_pos rfl] at hw
        conv => whnf
        repeat (first | (refine rest_vc ?_; conv => whnf) | (refine ⟨by decide, ?_⟩; conv => whnf))
        rw [e1]
        refine CallIn.o [0] (behind_ok s p sg (j + 1) false [2, 3] (by decide) (by omega) (by omega)) (k := ?_)
        rintro r st' ⟨rfl, rfl⟩
        conv => whnf
        repeat (first | (refine rest_vc ?_; conv => whnf) | (refine ⟨by decide, ?_⟩; conv => whnf))
        have hg2 := bhdN_ge s [2, 3] (s.size - (j + 1)) (j + 1) rfl
        exact ⟨bhdN s [2, 3] (j + 1), fun _ => 0, ⟨by omega, hg2.2 (by omega), hw.symm.trans hc⟩, by omega, rfl, ⟨rfl, rfl, rfl, rfl, trivial⟩, rfl, fun _ _ => rfl⟩
      | false =>
        rw [if_neg (by decide)] at hw
        have hfin : j = wdN s e0 := hw.symm.trans hc
        conv => whnf
        repeat (first | (refine rest_vc ?_; conv => whnf) | (refine ⟨by decide, ?_⟩; conv => whnf))
        exact ⟨(), fun _ => 0, trivial, rfl, ⟨rfl, rfl, rfl, congrArg (fun n : Nat => vI .i64 n) hfin, trivial⟩, rfl, fun _ _ => rfl⟩
    · have h2' : (atB s.toList j == 46) = false := by have : ¬ ((atB s.toList j : Nat) : Int) = 46 := beq_eq_false_iff_ne.1 h2; rw [beq_eq_false_iff_ne]; omega
      rw [h2', Bool.false_and, if_neg (by decide)] at hw
      have hfin : j = wdN s e0 := hw.symm.trans hc
      exact ⟨(), fun _ => 0, trivial, rfl, ⟨rfl, rfl, rfl, congrArg (fun n : Nat => vI .i64 n) hfin, trivial⟩, rfl, fun _ _ => rfl⟩
  · have h1 := of_decide_eq_false h1
    rw [decide_eq_false (by omega), Bool.false_and, Bool.false_and, if_neg (by decide)] at hw
    have hfin : j = wdN s e0 := hw.symm.trans hc
    exact ⟨(), fun _ => 0, trivial, rfl, ⟨rfl, rfl, rfl, congrArg (fun n : Nat => vI .i64 n) hfin, trivial⟩, rfl, fun _ _ => rfl⟩
end Go.Proofs.YtafngalmkblipaaGreatDoor
/- law10: the program's words: digits. -/
set_option linter.all false
set_option maxHeartbeats 4000000
set_option maxRecDepth 100000
namespace Go.Proofs.YtafngalmkblipaaGreatDoor
open Go Go.RowKit Go.Sy Go.Proofs

theorem digit_ok (n : Int) : CallOk Tryz.prog 186 [vI .u8 n] [] fun r st' => st' = [] ∧ ∃ m : Int, r = vI .i64 m := by
  refine callOk_of true 0 Tryz.func186 rfl rfl (Nat.le_refl _) ?_
  conv => whnf
  repeat (first | (refine rest_vc ?_; conv => whnf) | (refine ⟨by decide, ?_⟩; conv => whnf))
  split <;> rename_i h1 <;> (conv => whnf) <;> repeat (first | (refine rest_vc ?_; conv => whnf) | (refine ⟨by decide, ?_⟩; conv => whnf))
  · split <;> rename_i h2 <;> (conv => whnf) <;> repeat (first | (refine rest_vc ?_; conv => whnf) | (refine ⟨by decide, ?_⟩; conv => whnf))
    · exact ⟨rfl, _, rfl⟩
    · split <;> rename_i h3 <;> (conv => whnf) <;> repeat (first | (refine rest_vc ?_; conv => whnf) | (refine ⟨by decide, ?_⟩; conv => whnf))
      · split <;> rename_i h4 <;> (conv => whnf) <;> repeat (first | (refine rest_vc ?_; conv => whnf) | (refine ⟨by decide, ?_⟩; conv => whnf))
        · exact ⟨rfl, _, rfl⟩
        · split <;> rename_i h5 <;> (conv => whnf) <;> repeat (first | (refine rest_vc ?_; conv => whnf) | (refine ⟨by decide, ?_⟩; conv => whnf))
          · split <;> rename_i h6 <;> (conv => whnf) <;> repeat (first | (refine rest_vc ?_; conv => whnf) | (refine ⟨by decide, ?_⟩; conv => whnf))
            · exact ⟨rfl, _, rfl⟩
            · exact ⟨rfl, _, rfl⟩
          · exact ⟨rfl, _, rfl⟩
      · split <;> rename_i h5 <;> (conv => whnf) <;> repeat (first | (refine rest_vc ?_; conv => whnf) | (refine ⟨by decide, ?_⟩; conv => whnf))
        · split <;> rename_i h6 <;> (conv => whnf) <;> repeat (first | (refine rest_vc ?_; conv => whnf) | (refine ⟨by decide, ?_⟩; conv => whnf))
          · exact ⟨rfl, _, rfl⟩
          · exact ⟨rfl, _, rfl⟩
        · exact ⟨rfl, _, rfl⟩
  · split <;> rename_i h3 <;> (conv => whnf) <;> repeat (first | (refine rest_vc ?_; conv => whnf) | (refine ⟨by decide, ?_⟩; conv => whnf))
    · split <;> rename_i h4 <;> (conv => whnf) <;> repeat (first | (refine rest_vc ?_; conv => whnf) | (refine ⟨by decide, ?_⟩; conv => whnf))
      · exact ⟨rfl, _, rfl⟩
      · split <;> rename_i h5 <;> (conv => whnf) <;> repeat (first | (refine rest_vc ?_; conv => whnf) | (refine ⟨by decide, ?_⟩; conv => whnf))
        · split <;> rename_i h6 <;> (conv => whnf) <;> repeat (first | (refine rest_vc ?_; conv => whnf) | (refine ⟨by decide, ?_⟩; conv => whnf))
          · exact ⟨rfl, _, rfl⟩
          · exact ⟨rfl, _, rfl⟩
        · exact ⟨rfl, _, rfl⟩
    · split <;> rename_i h5 <;> (conv => whnf) <;> repeat (first | (refine rest_vc ?_; conv => whnf) | (refine ⟨by decide, ?_⟩; conv => whnf))
      · split <;> rename_i h6 <;> (conv => whnf) <;> repeat (first | (refine rest_vc ?_; conv => whnf) | (refine ⟨by decide, ?_⟩; conv => whnf))
        · exact ⟨rfl, _, rfl⟩
        · exact ⟨rfl, _, rfl⟩
      · exact ⟨rfl, _, rfl⟩

theorem valued_ok (s : ByteArray) (base : Int) (hs : (s.size : Int) ≤ 2000000) : CallOk Tryz.prog 187 [vS s, vI .i64 base] [] fun r st' => st' = [] ∧ ∃ (m : Int) (c : Bool), r = .tup [vI .i64 m, vB c] := by
  have e0 : (s.data.toList.map fun c => PV.val (.int .u8 c.toNat)).length = s.size := by rw [List.length_map]; rfl
  refine callOk_of true 0 Tryz.func187 rfl rfl (Nat.le_refl _) ?_
  conv => whnf
  repeat (first | (refine rest_vc ?_; conv => whnf) | (refine ⟨by decide, ?_⟩; conv => whnf))
  refine ⟨by omega, ?_⟩
  conv => whnf
  repeat (first | (refine rest_vc ?_; conv => whnf) | (refine ⟨by decide, ?_⟩; conv => whnf))
  intro _
  conv => whnf
  repeat (first | (refine rest_vc ?_; conv => whnf) | (refine ⟨by decide, ?_⟩; conv => whnf))
  refine awp_loop2 (n := 28) (α := Nat) (β := Int) (fun i m => i ≤ s.size) (fun i m => [(0, vS s), (1, vI .i64 base), (4, vI .i64 0), (5, vB false), (6, vI .i64 m), (10, .pure (.list 1 false (s.data.toList.map fun c => .val (.int .u8 c.toNat)))), (11, vI .i64 (s.size : Nat)), (12, vI .i64 i)])
    (fun _ _ => []) (fun i m => s.size - i) 0 0 (fun _ => 0) (Nat.zero_le _) rfl ⟨rfl, rfl, rfl, rfl, rfl, rfl, congrArg (vI .i64) (by rw [e0]), rfl, trivial⟩ rfl (fun _ _ => rfl) (fun _ _ => ⟨Nat.le_refl _, rfl, rfl⟩) ?_
  rintro i m hi
  conv => whnf
  repeat (first | (refine rest_vc ?_; conv => whnf) | (refine ⟨by decide, ?_⟩; conv => whnf))
  split <;> rename_i h1 <;> (conv => whnf) <;> repeat (first | (refine rest_vc ?_; conv => whnf) | (refine ⟨by decide, ?_⟩; conv => whnf))
  · have hlt : i < s.size := by have := of_decide_eq_true h1; omega
    refine ⟨⟨by omega, by show (i : Int) < ((s.data.toList.map fun c => PV.val (.int .u8 c.toNat)).length : Int); omega⟩, fun p hp => ?_⟩
    rw [List.getElem?_map, Option.map_eq_some_iff] at hp
    obtain ⟨c, _, rfl⟩ := hp
    conv => whnf
    repeat (first | (refine rest_vc ?_; conv => whnf) | (refine ⟨by decide, ?_⟩; conv => whnf))
    refine CallIn.top (digit_ok (c.toNat : Int)) (k := ?_)
    rintro r ⟨d, rfl⟩
    conv => whnf
    repeat (first | (refine rest_vc ?_; conv => whnf) | (refine ⟨by decide, ?_⟩; conv => whnf))
    split <;> rename_i h2 <;> (conv => whnf) <;> repeat (first | (refine rest_vc ?_; conv => whnf) | (refine ⟨by decide, ?_⟩; conv => whnf))
    · exact ⟨rfl, _, _, rfl⟩
    · exact ⟨i + 1, _, fun _ => 0, hlt, by omega, rfl, ⟨rfl, rfl, rfl, rfl, rfl, rfl, rfl, congrArg (vI .i64) (succ64 (by omega)), trivial⟩, rfl, fun _ _ => rfl⟩
  · conv => whnf
    repeat (first | (refine rest_vc ?_; conv => whnf) | (refine ⟨by decide, ?_⟩; conv => whnf))
    split <;> rename_i h3 <;> (conv => whnf) <;> repeat (first | (refine rest_vc ?_; conv => whnf) | (refine ⟨by decide, ?_⟩; conv => whnf))
    · exact ⟨rfl, _, _, rfl⟩
    · exact ⟨rfl, _, _, rfl⟩
end Go.Proofs.YtafngalmkblipaaGreatDoor
/- law10: the program's words: signs, weakly. -/
set_option linter.all false
set_option maxHeartbeats 4000000
set_option maxRecDepth 100000
namespace Go.Proofs.YtafngalmkblipaaGreatDoor
open Go Go.RowKit Go.Sy Go.Proofs

theorem scX_sg {s : ByteArray} {p : Int} {sg : PV} : (scX s p sg)[258]? = some sg := by
  unfold scX
  rw [List.getElem?_cons_succ, List.getElem?_cons_succ, List.getElem?_append_right (by simp [clsP])]
  simp [clsP]
theorem scX_set {s : ByteArray} {p q : Int} {sg : PV} : setAt (scX s p sg) 1 [.val (.int .i64 q)] = scX s q sg := rfl
/-- A token. -/
def tkA (k n a : Int) (x : ByteArray) : PV := .agg [.val (.int .i64 k), .val (.int .i64 n), .val (.int .i64 a), .val (.string x)]
/-- What a taking of a token that is no word's gives. -/
def TkR (s : ByteArray) (p : Nat) (sg : PV) (r : SV) (st' : List Ob) : Prop :=
  ∃ (k n a : Int) (x : ByteArray) (c : Bool) (p' : Nat), r = .tup [.pure (tkA k n a x), vB c] ∧ st' = [scR s p' sg] ∧ p ≤ p' ∧ p' ≤ s.size ∧ (c = true → k ≠ 0 ∧ p < p')

theorem hasP_len {a b : ByteArray} (h : hasP a b = true) : b.size ≤ a.size := by
  unfold hasP at h
  simp only [Bool.and_eq_true, decide_eq_true_eq] at h
  exact h.1

abbrev sgL (l : List ByteArray) : PV := .list 1 false (l.map pvB)
theorem sign_ok (s : ByteArray) (p : Nat) (l : List ByteArray) (hl : (l.length : Int) ≤ 1000) (hx : ∀ x ∈ l, 0 < x.size ∧ (x.size : Int) ≤ 1000) (hs : (s.size : Int) ≤ 1000000) (hp : p ≤ s.size) :
    CallOk Tryz.prog 177 [.ptr 0 0] [scR s p (sgL l)] (TkR s p (sgL l)) := by
  have ll : (l.map pvB).length = l.length := List.length_map ..
  refine callOk_of false 1 Tryz.func177 rfl rfl (Nat.le_refl _) ?_
  conv => whnf
  repeat (first | (refine rest_vc ?_; conv => whnf) | (refine ⟨by decide, ?_⟩; conv => whnf))
  intro q hq
  obtain rfl := Option.some.inj (scX_sg.symm.trans hq)
  conv => whnf
  repeat (first | (refine rest_vc ?_; conv => whnf) | (refine ⟨by decide, ?_⟩; conv => whnf))
  intro _
  conv => whnf
  repeat (first | (refine rest_vc ?_; conv => whnf) | (refine ⟨by decide, ?_⟩; conv => whnf))
  refine awp_loop (n := 39) (α := Nat) (fun i => i ≤ l.length) (fun i => [(0, .ptr 0 0), (2, .ptr 1 0), (3, vB false), (9, .pure (sgL l)), (10, vI .i64 (l.length : Nat)), (11, vI .i64 i)])
    (fun _ => [scR s p (sgL l), .cells 145 [vI .i64 0, vI .i64 0, vI .i64 0, vS noS]]) (fun i => l.length - i) 0 (fun _ => 0)
    (Nat.zero_le _) rfl ⟨rfl, rfl, rfl, rfl, congrArg (vI .i64) (by rw [ll]), rfl, trivial⟩ rfl (fun _ _ => rfl) (fun _ => ⟨(by show 1 ≤ 2; omega), rfl, rfl⟩) ?_
  rintro i hi
  have ld0 : ∀ q, (scX s p (sgL l))[0]? = some q → PV.val (.string s) = q := fun q hq => Option.some.inj hq
  have ld1 : ∀ q, (scX s p (sgL l))[1]? = some q → PV.val (.int .i64 (p : Int)) = q := fun q hq => Option.some.inj hq
  conv => whnf
  repeat (first | (refine rest_vc ?_; conv => whnf) | (refine ⟨by decide, ?_⟩; conv => whnf))
  split <;> rename_i h1 <;> (conv => whnf) <;> repeat (first | (refine rest_vc ?_; conv => whnf) | (refine ⟨by decide, ?_⟩; conv => whnf))
  · have hlt : i < l.length := by have := of_decide_eq_true h1; omega
    refine ⟨⟨by omega, by show (i : Int) < ((l.map pvB).length : Int); omega⟩, fun z hz => ?_⟩
    rw [List.getElem?_map, Option.map_eq_some_iff] at hz
    obtain ⟨x, hxl, rfl⟩ := hz
    have hxm := hx x (List.mem_of_getElem? hxl)
    conv => whnf
    repeat (first | (refine rest_vc ?_; conv => whnf) | (refine ⟨by decide, ?_⟩; conv => whnf))
    refine hand_draw [] (fun _ z => z = vB (hasP (s.extract p s.size) x)) rfl (by kernel_rfl) rfl ?_
    conv => whnf
    repeat (first | (refine rest_vc ?_; conv => whnf) | (refine ⟨by decide, ?_⟩; conv => whnf))
    intro q hq
    obtain rfl := ld0 q hq
    conv => whnf
    repeat (first | (refine rest_vc ?_; conv => whnf) | (refine ⟨by decide, ?_⟩; conv => whnf))
    intro q hq
    obtain rfl := ld1 q hq
    conv => whnf
    repeat (first | (refine rest_vc ?_; conv => whnf) | (refine ⟨by decide, ?_⟩; conv => whnf))
    refine ⟨⟨by omega, by omega⟩, ?_⟩
    have hes : (s.extract p s.size).size = s.size - p := by rw [ByteArray.size_extract]; omega
    have hcall := hasP_ok (s.extract p s.size) x (by omega) (by omega)
    have hle : hasP (s.extract p s.size) x = true → x.size ≤ s.size - p := fun h => by have := hasP_len h; omega
    generalize hb : hasP (s.extract p s.size) x = b at *
    conv => whnf
    repeat (first | (refine rest_vc ?_; conv => whnf) | (refine ⟨by decide, ?_⟩; conv => whnf))
    refine CallIn.dto (hcall) (k := ?_)
    conv => whnf
    repeat (first | (refine rest_vc ?_; conv => whnf) | (refine ⟨by decide, ?_⟩; conv => whnf))
    cases b with
    | true =>
      conv => whnf
      repeat (first | (refine rest_vc ?_; conv => whnf) | (refine ⟨by decide, ?_⟩; conv => whnf))
      intro q hq
      obtain rfl := ld1 q hq
      conv => whnf
      repeat (first | (refine rest_vc ?_; conv => whnf) | (refine ⟨by decide, ?_⟩; conv => whnf))
      have hl2 := hle rfl
      rw [show IntKind.i64.wrap ((p : Int) + (x.size : Int)) = ((p + x.size : Nat) : Int) by rw [w64 (by omega) (by omega)]; omega]
      exact ⟨3, 0, 0, x, true, p + x.size, rfl, rfl, by omega, by omega, fun _ => ⟨by decide, by omega⟩⟩
    | false =>
      conv => whnf
      repeat (first | (refine rest_vc ?_; conv => whnf) | (refine ⟨by decide, ?_⟩; conv => whnf))
      exact ⟨i + 1, fun _ => 0, hlt, by omega, rfl, ⟨rfl, rfl, rfl, rfl, rfl, congrArg (vI .i64) (succ64 (by omega)), trivial⟩, rfl, fun _ _ => rfl⟩
  · conv => whnf
    repeat (first | (refine rest_vc ?_; conv => whnf) | (refine ⟨by decide, ?_⟩; conv => whnf))
    exact ⟨0, 0, 0, noS, false, p, rfl, rfl, Nat.le_refl _, hp, fun h => by cases h⟩
end Go.Proofs.YtafngalmkblipaaGreatDoor
/- law10: the program's words: blanks. -/
set_option linter.all false
set_option maxHeartbeats 4000000
set_option maxRecDepth 100000
namespace Go.Proofs.YtafngalmkblipaaGreatDoor
open Go Go.RowKit Go.Sy Go.Proofs

abbrev sSl : ByteArray := ⟨#[47, 47]⟩
theorem hasP_sl {s : ByteArray} {p : Nat} (hp : p ≤ s.size) (h : hasP (s.extract p s.size) sSl = true) : p + 2 ≤ s.size ∧ atB s.toList p = 47 := by
  have hl := hasP_len h
  rw [ByteArray.size_extract] at hl
  have hl : p + 2 ≤ s.size := by have : sSl.size = 2 := rfl; omega
  refine ⟨hl, ?_⟩
  unfold hasP at h
  simp only [Bool.and_eq_true] at h
  have h2 := eqBA_iff.1 h.2
  have h3 := congrArg (fun b : ByteArray => b.data.toList[0]?) h2
  have h4 : s.data.toList[p]? = some 47 := by
    simp [ByteArray.data_extract] at h3
    rw [List.getElem?_take] at h3
    split at h3
    · rw [List.getElem?_drop] at h3
      exact h3
    · cases h3
  unfold atB
  rw [ByteArray.toList_eq, List.getD_eq_getElem?_getD, h4]
  rfl

def BlR (s : ByteArray) (p : Nat) (sg : PV) (r : SV) (st' : List Ob) : Prop :=
  ∃ (c : Bool) (p' : Nat), r = vB c ∧ st' = [scR s p' sg] ∧ p ≤ p' ∧ p' ≤ s.size ∧ (isC s p [1] = false → hasP (s.extract p s.size) sSl = false → c = true ∧ p' = p)
theorem blanks_ok (s : ByteArray) (p : Nat) (sg : PV) (hs : (s.size : Int) ≤ 1000000) (hp : p ≤ s.size) : CallOk Tryz.prog 154 [.ptr 0 0] [scR s p sg] (BlR s p sg) := by
  refine callOk_of false 1 Tryz.func154 rfl rfl (Nat.le_refl _) ?_
  conv => whnf
  repeat (first | (refine rest_vc ?_; conv => whnf) | (refine ⟨by decide, ?_⟩; conv => whnf))
  refine awp_loop (n := 60) (α := Nat) (fun i => p ≤ i ∧ i ≤ s.size ∧ (isC s p [1] = false → hasP (s.extract p s.size) sSl = false → i = p)) (fun i => [(0, .ptr 0 0)])
    (fun i => [scR s i sg]) (fun i => s.size - i) p (fun _ => 0) ⟨Nat.le_refl _, hp, fun _ _ => rfl⟩ rfl ⟨rfl, trivial⟩ rfl (fun _ _ => rfl) (fun _ => ⟨Nat.le_refl _, rfl, rfl⟩) ?_
  rintro i ⟨hpi, hi, hst⟩
  have hg := bhdN_ge s [1] (s.size - i) i rfl
  have hba := bhdN_at s [1] i
  conv => whnf
  repeat (first | (refine rest_vc ?_; conv => whnf) | (refine ⟨by decide, ?_⟩; conv => whnf))
  intro q hq
  obtain rfl : PV.val (.int .i64 (i : Int)) = q := Option.some.inj hq
  conv => whnf
  repeat (first | (refine rest_vc ?_; conv => whnf) | (refine ⟨by decide, ?_⟩; conv => whnf))
  refine CallIn.o [0] (behind_ok s i sg i false [1] (by decide) (by omega) (by omega)) (k := ?_)
  rintro r st' ⟨rfl, rfl⟩
  conv => whnf
  repeat (first | (refine rest_vc ?_; conv => whnf) | (refine ⟨by decide, ?_⟩; conv => whnf))
  obtain ⟨e, he⟩ : ∃ e, e = bhdN s [1] i := ⟨_, rfl⟩
  rw [← he] at hg hba ⊢
  have hes : e ≤ s.size := hg.2 hi
  have hep : isC s p [1] = false → hasP (s.extract p s.size) sSl = false → e = p := fun h1 h2 => by
    have := hst h1 h2
    subst this
    rw [hba, if_neg (by rw [h1]; decide)]
  have hex : (s.extract e s.size).size = s.size - e := by rw [ByteArray.size_extract]; omega
  have hcall := hasP_ok (s.extract e s.size) sSl (by omega) (by decide)
  have hsl := hasP_sl (s := s) (p := e) hes
  generalize hb : hasP (s.extract e s.size) sSl = b at *
  refine hand_draw [] (fun _ z => z = vB b) rfl (by kernel_rfl) rfl ?_
  conv => whnf
  repeat (first | (refine rest_vc ?_; conv => whnf) | (refine ⟨by decide, ?_⟩; conv => whnf))
  intro q hq
  obtain rfl : PV.val (.string s) = q := Option.some.inj hq
  conv => whnf
  repeat (first | (refine rest_vc ?_; conv => whnf) | (refine ⟨by decide, ?_⟩; conv => whnf))
  intro q hq
  obtain rfl : PV.val (.int .i64 (e : Int)) = q := Option.some.inj hq
  conv => whnf
  repeat (first | (refine rest_vc ?_; conv => whnf) | (refine ⟨by decide, ?_⟩; conv => whnf))
  refine ⟨⟨by omega, by omega⟩, ?_⟩
  conv => whnf
  repeat (first | (refine rest_vc ?_; conv => whnf) | (refine ⟨by decide, ?_⟩; conv => whnf))
  refine CallIn.dto (hcall) (k := ?_)
  conv => whnf
  repeat (first | (refine rest_vc ?_; conv => whnf) | (refine ⟨by decide, ?_⟩; conv => whnf))
  cases b with
  | false =>
    conv => whnf
    repeat (first | (refine rest_vc ?_; conv => whnf) | (refine ⟨by decide, ?_⟩; conv => whnf))
    exact ⟨true, e, rfl, rfl, by omega, hes, fun h1 h2 => ⟨rfl, hep h1 h2⟩⟩
  | true =>
    conv => whnf
    repeat (first | (refine rest_vc ?_; conv => whnf) | (refine ⟨by decide, ?_⟩; conv => whnf))
    obtain ⟨hs2, hs3⟩ := hsl rfl
    refine awp_loop (n := 60) (α := Nat) (fun j => e ≤ j ∧ j ≤ s.size) (fun j => [(0, .ptr 0 0)])
      (fun j => [scR s j sg]) (fun j => s.size - j) e (fun _ => 0) ⟨Nat.le_refl _, hes⟩ rfl ⟨rfl, trivial⟩ rfl (fun _ _ => rfl) (fun _ => ⟨Nat.le_refl _, rfl, rfl⟩) ?_
    rintro j ⟨hej, hj⟩
    conv => whnf
    repeat (first | (refine rest_vc ?_; conv => whnf) | (refine ⟨by decide, ?_⟩; conv => whnf))
    refine hand_draw [] (fun _ z => True) rfl (by kernel_rfl) rfl ?_
    conv => whnf
    repeat (first | (refine rest_vc ?_; conv => whnf) | (refine ⟨by decide, ?_⟩; conv => whnf))
    intro q hq
    obtain rfl : PV.val (.int .i64 (j : Int)) = q := Option.some.inj hq
    conv => whnf
    repeat (first | (refine rest_vc ?_; conv => whnf) | (refine ⟨by decide, ?_⟩; conv => whnf))
    intro q hq
    obtain rfl : PV.val (.string s) = q := Option.some.inj hq
    conv => whnf
    repeat (first | (refine rest_vc ?_; conv => whnf) | (refine ⟨by decide, ?_⟩; conv => whnf))
    have out : ∀ (hne : j ≠ e), ∃ x' f, (p ≤ x' ∧ x' ≤ s.size ∧ (isC s p [1] = false → hasP (s.extract p s.size) sSl = false → x' = p)) ∧ s.size - x' < s.size - i ∧ x' = j ∧ f = fun _ : Nat => 0 := fun hne =>
      ⟨j, _, ⟨by omega, hj, fun h1 h2 => by have := hep h1 h2; subst this; rw [h2] at hb; cases hb⟩, by omega, rfl, rfl⟩
    split <;> rename_i h1 <;> (conv => whnf) <;> repeat (first | (refine rest_vc ?_; conv => whnf) | (refine ⟨by decide, ?_⟩; conv => whnf))
    · have h1 := of_decide_eq_true h1
      intro q hq
      obtain rfl : PV.val (.string s) = q := Option.some.inj hq
      conv => whnf
      repeat (first | (refine rest_vc ?_; conv => whnf) | (refine ⟨by decide, ?_⟩; conv => whnf))
      intro q hq
      obtain rfl : PV.val (.int .i64 (j : Int)) = q := Option.some.inj hq
      conv => whnf
      repeat (first | (refine rest_vc ?_; conv => whnf) | (refine ⟨by decide, ?_⟩; conv => whnf))
      refine ⟨⟨by omega, by omega⟩, ?_⟩
      rw [show byteAt s (j : Int).toNat = ((atB s.toList j : Nat) : Int) from byteAt_atB s j]
      conv => whnf
      repeat (first | (refine rest_vc ?_; conv => whnf) | (refine ⟨by decide, ?_⟩; conv => whnf))
      split <;> rename_i h2 <;> (conv => whnf) <;> repeat (first | (refine rest_vc ?_; conv => whnf) | (refine ⟨by decide, ?_⟩; conv => whnf))
      · intro q hq
        obtain rfl : PV.val (.int .i64 (j : Int)) = q := Option.some.inj hq
        conv => whnf
        repeat (first | (refine rest_vc ?_; conv => whnf) | (refine ⟨by decide, ?_⟩; conv => whnf))
        have hc2 := is_ok s j sg j false [0] (by decide) (by omega) (by omega)
        generalize isC s j [0] = d at hc2
        refine CallIn.o [0] (hc2) (k := ?_)
        rintro r st' ⟨rfl, rfl⟩
        conv => whnf
        repeat (first | (refine rest_vc ?_; conv => whnf) | (refine ⟨by decide, ?_⟩; conv => whnf))
        cases d with
        | true =>
          conv => whnf
          repeat (first | (refine rest_vc ?_; conv => whnf) | (refine ⟨by decide, ?_⟩; conv => whnf))
          exact ⟨false, j, rfl, rfl, by omega, hj, fun h3 h4 => by have := hep h3 h4; subst this; rw [h4] at hb; cases hb⟩
        | false =>
          conv => whnf
          repeat (first | (refine rest_vc ?_; conv => whnf) | (refine ⟨by decide, ?_⟩; conv => whnf))
          intro q hq
          obtain rfl : PV.val (.int .i64 (j : Int)) = q := Option.some.inj hq
          conv => whnf
          repeat (first | (refine rest_vc ?_; conv => whnf) | (refine ⟨by decide, ?_⟩; conv => whnf))
          rw [show IntKind.i64.wrap ((j : Int) + 1) = ((j + 1 : Nat) : Int) from succ64 (by omega)]
          exact ⟨j + 1, fun _ => 0, ⟨by omega, by omega⟩, by omega, rfl, ⟨rfl, trivial⟩, rfl, fun _ _ => rfl⟩
      · have h2 : (((atB s.toList j : Nat) : Int) != 10) = false := h2
        have h2' : atB s.toList j = 10 := by simp at h2; omega
        obtain ⟨x', f, g1, g2, rfl, rfl⟩ := out (by rintro rfl; omega)
        exact ⟨x', _, g1, g2, rfl, ⟨rfl, trivial⟩, rfl, fun _ _ => rfl⟩
    · have h1 := of_decide_eq_false h1
      obtain ⟨x', f, g1, g2, rfl, rfl⟩ := out (by omega)
      conv => whnf
      repeat (first | (refine rest_vc ?_; conv => whnf) | (refine ⟨by decide, ?_⟩; conv => whnf))
      exact ⟨x', _, g1, g2, rfl, ⟨rfl, trivial⟩, rfl, fun _ _ => rfl⟩
end Go.Proofs.YtafngalmkblipaaGreatDoor
/- law10: the program's words: what stands behind a backslash, weakly. -/
set_option linter.all false
set_option maxHeartbeats 4000000
set_option maxRecDepth 100000
namespace Go.Proofs.YtafngalmkblipaaGreatDoor
open Go Go.RowKit Go.Sy Go.Proofs

theorem escaped_ok (s : ByteArray) (p : Nat) (sg : PV) (hs : (s.size : Int) ≤ 1000000) (hp : p ≤ s.size) :
    CallOk Tryz.prog 188 [.ptr 0 0] [scR s p sg] fun r st' => ∃ (b : Int) (c : Bool) (p' : Nat), r = .tup [vI .u8 b, vB c] ∧ st' = [scR s p' sg] ∧ p ≤ p' ∧ p' ≤ s.size := by
  have esub : IntKind.i64.wrap (((p + 1 : Nat) : Int) - 1) = ((p : Nat) : Int) := by rw [w64 (by omega) (by omega)]; omega
  have e2 : IntKind.i64.wrap (((p + 1 : Nat) : Int) + 1) = ((p + 2 : Nat) : Int) := by rw [w64 (by omega) (by omega)]; omega
  have e3 : IntKind.i64.wrap (((p + 1 : Nat) : Int) + 2) = ((p + 3 : Nat) : Int) := by rw [w64 (by omega) (by omega)]; omega
  have e4 : IntKind.i64.wrap (((p + 3 : Nat) : Int) - 2) = ((p + 1 : Nat) : Int) := by rw [w64 (by omega) (by omega)]; omega
  have e5 : IntKind.i64.wrap (((p + 3 : Nat) : Int) - 1) = ((p + 2 : Nat) : Int) := by rw [w64 (by omega) (by omega)]; omega
  refine callOk_of false 1 Tryz.func188 rfl rfl (Nat.le_refl _) ?_
  conv => whnf
  repeat (first | (refine rest_vc ?_; conv => whnf) | (refine ⟨by decide, ?_⟩; conv => whnf))
  refine hand_draw [] (fun _ _ => True) rfl (by kernel_rfl) rfl ?_
  conv => whnf
  repeat (first | (refine rest_vc ?_; conv => whnf) | (refine ⟨by decide, ?_⟩; conv => whnf))
  intro q hq
  obtain rfl : PV.val (.int .i64 ((p : Int) : Int)) = q := Option.some.inj hq
  conv => whnf
  repeat (first | (refine rest_vc ?_; conv => whnf) | (refine ⟨by decide, ?_⟩; conv => whnf))
  intro q hq
  obtain rfl : PV.val (.string s) = q := Option.some.inj hq
  conv => whnf
  repeat (first | (refine rest_vc ?_; conv => whnf) | (refine ⟨by decide, ?_⟩; conv => whnf))
  split <;> rename_i h1 <;> (conv => whnf) <;> repeat (first | (refine rest_vc ?_; conv => whnf) | (refine ⟨by decide, ?_⟩; conv => whnf))
  · exact ⟨_, false, p, rfl, rfl, by omega, by omega⟩
  · have h1 := of_decide_eq_false h1
    intro q hq
    obtain rfl : PV.val (.int .i64 ((p : Int) : Int)) = q := Option.some.inj hq
    conv => whnf
    repeat (first | (refine rest_vc ?_; conv => whnf) | (refine ⟨by decide, ?_⟩; conv => whnf))
    rw [show IntKind.i64.wrap ((p : Int) + 1) = ((p + 1 : Nat) : Int) from succ64 (by omega)]
    conv => whnf
    repeat (first | (refine rest_vc ?_; conv => whnf) | (refine ⟨by decide, ?_⟩; conv => whnf))
    refine hand_draw [] (fun _ _ => True) rfl (by kernel_rfl) rfl ?_
    conv => whnf
    repeat (first | (refine rest_vc ?_; conv => whnf) | (refine ⟨by decide, ?_⟩; conv => whnf))
    intro q hq
    obtain rfl : PV.val (.string s) = q := Option.some.inj hq
    conv => whnf
    repeat (first | (refine rest_vc ?_; conv => whnf) | (refine ⟨by decide, ?_⟩; conv => whnf))
    intro q hq
    obtain rfl : PV.val (.int .i64 (((p + 1 : Nat) : Int) : Int)) = q := Option.some.inj hq
    conv => whnf
    repeat (first | (refine rest_vc ?_; conv => whnf) | (refine ⟨by decide, ?_⟩; conv => whnf))
    rw [esub]
    refine ⟨⟨by omega, by omega⟩, ?_⟩
    conv => whnf
    repeat (first | (refine rest_vc ?_; conv => whnf) | (refine ⟨by decide, ?_⟩; conv => whnf))
    split <;> rename_i h2 <;> (conv => whnf) <;> repeat (first | (refine rest_vc ?_; conv => whnf) | (refine ⟨by decide, ?_⟩; conv => whnf))
    · refine hand_draw [] (fun _ _ => True) rfl (by kernel_rfl) rfl ?_
      conv => whnf
      repeat (first | (refine rest_vc ?_; conv => whnf) | (refine ⟨by decide, ?_⟩; conv => whnf))
      intro q hq
      obtain rfl : PV.val (.string s) = q := Option.some.inj hq
      conv => whnf
      repeat (first | (refine rest_vc ?_; conv => whnf) | (refine ⟨by decide, ?_⟩; conv => whnf))
      intro q hq
      obtain rfl : PV.val (.int .i64 (((p + 1 : Nat) : Int) : Int)) = q := Option.some.inj hq
      conv => whnf
      repeat (first | (refine rest_vc ?_; conv => whnf) | (refine ⟨by decide, ?_⟩; conv => whnf))
      rw [esub]
      refine ⟨⟨by omega, by omega⟩, ?_⟩
      conv => whnf
      repeat (first | (refine rest_vc ?_; conv => whnf) | (refine ⟨by decide, ?_⟩; conv => whnf))
      exact ⟨_, true, p + 1, rfl, rfl, by omega, by omega⟩
    · split <;> rename_i h3 <;> (conv => whnf) <;> repeat (first | (refine rest_vc ?_; conv => whnf) | (refine ⟨by decide, ?_⟩; conv => whnf))
      · refine hand_draw [] (fun _ _ => True) rfl (by kernel_rfl) rfl ?_
        conv => whnf
        repeat (first | (refine rest_vc ?_; conv => whnf) | (refine ⟨by decide, ?_⟩; conv => whnf))
        intro q hq
        obtain rfl : PV.val (.string s) = q := Option.some.inj hq
        conv => whnf
        repeat (first | (refine rest_vc ?_; conv => whnf) | (refine ⟨by decide, ?_⟩; conv => whnf))
        intro q hq
        obtain rfl : PV.val (.int .i64 (((p + 1 : Nat) : Int) : Int)) = q := Option.some.inj hq
        conv => whnf
        repeat (first | (refine rest_vc ?_; conv => whnf) | (refine ⟨by decide, ?_⟩; conv => whnf))
        rw [esub]
        refine ⟨⟨by omega, by omega⟩, ?_⟩
        conv => whnf
        repeat (first | (refine rest_vc ?_; conv => whnf) | (refine ⟨by decide, ?_⟩; conv => whnf))
        exact ⟨_, true, p + 1, rfl, rfl, by omega, by omega⟩
      · split <;> rename_i h4 <;> (conv => whnf) <;> repeat (first | (refine rest_vc ?_; conv => whnf) | (refine ⟨by decide, ?_⟩; conv => whnf))
        · exact ⟨_, true, p + 1, rfl, rfl, by omega, by omega⟩
        · split <;> rename_i h5 <;> (conv => whnf) <;> repeat (first | (refine rest_vc ?_; conv => whnf) | (refine ⟨by decide, ?_⟩; conv => whnf))
          · refine hand_draw [] (fun _ z => ∃ m : Int, z = vI .i64 m) rfl (by kernel_rfl) rfl ?_
            conv => whnf
            repeat (first | (refine rest_vc ?_; conv => whnf) | (refine ⟨by decide, ?_⟩; conv => whnf))
            intro q hq
            obtain rfl : PV.val (.int .i64 (((p + 1 : Nat) : Int) : Int)) = q := Option.some.inj hq
            conv => whnf
            repeat (first | (refine rest_vc ?_; conv => whnf) | (refine ⟨by decide, ?_⟩; conv => whnf))
            intro q hq
            obtain rfl : PV.val (.string s) = q := Option.some.inj hq
            conv => whnf
            repeat (first | (refine rest_vc ?_; conv => whnf) | (refine ⟨by decide, ?_⟩; conv => whnf))
            rw [e3]
            split <;> rename_i h6 <;> (conv => whnf) <;> repeat (first | (refine rest_vc ?_; conv => whnf) | (refine ⟨by decide, ?_⟩; conv => whnf))
            · exact ⟨_, false, p + 1, rfl, rfl, by omega, by omega⟩
            · have h6 := of_decide_eq_false h6
              intro q hq
              obtain rfl : PV.val (.string s) = q := Option.some.inj hq
              conv => whnf
              repeat (first | (refine rest_vc ?_; conv => whnf) | (refine ⟨by decide, ?_⟩; conv => whnf))
              intro q hq
              obtain rfl : PV.val (.int .i64 (((p + 1 : Nat) : Int) : Int)) = q := Option.some.inj hq
              conv => whnf
              repeat (first | (refine rest_vc ?_; conv => whnf) | (refine ⟨by decide, ?_⟩; conv => whnf))
              refine ⟨⟨by omega, by omega⟩, ?_⟩
              conv => whnf
              repeat (first | (refine rest_vc ?_; conv => whnf) | (refine ⟨by decide, ?_⟩; conv => whnf))
              refine .draw (digit_ok _) rfl (.inl rfl) ?_
              rintro r ⟨d1, rfl⟩
              conv => whnf
              repeat (first | (refine rest_vc ?_; conv => whnf) | (refine ⟨by decide, ?_⟩; conv => whnf))
              split <;> rename_i h7 <;> (conv => whnf) <;> repeat (first | (refine rest_vc ?_; conv => whnf) | (refine ⟨by decide, ?_⟩; conv => whnf))
              · exact ⟨_, false, p + 1, rfl, rfl, by omega, by omega⟩
              · intro q hq
                obtain rfl : PV.val (.string s) = q := Option.some.inj hq
                conv => whnf
                repeat (first | (refine rest_vc ?_; conv => whnf) | (refine ⟨by decide, ?_⟩; conv => whnf))
                intro q hq
                obtain rfl : PV.val (.int .i64 (((p + 1 : Nat) : Int) : Int)) = q := Option.some.inj hq
                conv => whnf
                repeat (first | (refine rest_vc ?_; conv => whnf) | (refine ⟨by decide, ?_⟩; conv => whnf))
                rw [e2]
                refine ⟨⟨by omega, by omega⟩, ?_⟩
                conv => whnf
                repeat (first | (refine rest_vc ?_; conv => whnf) | (refine ⟨by decide, ?_⟩; conv => whnf))
                refine .draw (digit_ok _) rfl (.inl rfl) ?_
                rintro r ⟨d2, rfl⟩
                conv => whnf
                repeat (first | (refine rest_vc ?_; conv => whnf) | (refine ⟨by decide, ?_⟩; conv => whnf))
                split <;> rename_i h8 <;> (conv => whnf) <;> repeat (first | (refine rest_vc ?_; conv => whnf) | (refine ⟨by decide, ?_⟩; conv => whnf))
                · exact ⟨_, false, p + 1, rfl, rfl, by omega, by omega⟩
                · intro q hq
                  obtain rfl : PV.val (.int .i64 (((p + 1 : Nat) : Int) : Int)) = q := Option.some.inj hq
                  conv => whnf
                  repeat (first | (refine rest_vc ?_; conv => whnf) | (refine ⟨by decide, ?_⟩; conv => whnf))
                  rw [e3]
                  conv => whnf
                  repeat (first | (refine rest_vc ?_; conv => whnf) | (refine ⟨by decide, ?_⟩; conv => whnf))
                  refine hand_draw [] (fun _ z => ∃ m : Int, z = vI .i64 m) rfl (by kernel_rfl) rfl ?_
                  conv => whnf
                  repeat (first | (refine rest_vc ?_; conv => whnf) | (refine ⟨by decide, ?_⟩; conv => whnf))
                  intro q hq
                  obtain rfl : PV.val (.string s) = q := Option.some.inj hq
                  conv => whnf
                  repeat (first | (refine rest_vc ?_; conv => whnf) | (refine ⟨by decide, ?_⟩; conv => whnf))
                  intro q hq
                  obtain rfl : PV.val (.int .i64 (((p + 3 : Nat) : Int) : Int)) = q := Option.some.inj hq
                  conv => whnf
                  repeat (first | (refine rest_vc ?_; conv => whnf) | (refine ⟨by decide, ?_⟩; conv => whnf))
                  rw [e4]
                  refine ⟨⟨by omega, by omega⟩, ?_⟩
                  conv => whnf
                  repeat (first | (refine rest_vc ?_; conv => whnf) | (refine ⟨by decide, ?_⟩; conv => whnf))
                  refine .draw (digit_ok _) rfl (.inl rfl) ?_
                  rintro r ⟨d3, rfl⟩
                  conv => whnf
                  repeat (first | (refine rest_vc ?_; conv => whnf) | (refine ⟨by decide, ?_⟩; conv => whnf))
                  intro q hq
                  obtain rfl : PV.val (.string s) = q := Option.some.inj hq
                  conv => whnf
                  repeat (first | (refine rest_vc ?_; conv => whnf) | (refine ⟨by decide, ?_⟩; conv => whnf))
                  intro q hq
                  obtain rfl : PV.val (.int .i64 (((p + 3 : Nat) : Int) : Int)) = q := Option.some.inj hq
                  conv => whnf
                  repeat (first | (refine rest_vc ?_; conv => whnf) | (refine ⟨by decide, ?_⟩; conv => whnf))
                  rw [e5]
                  refine ⟨⟨by omega, by omega⟩, ?_⟩
                  conv => whnf
                  repeat (first | (refine rest_vc ?_; conv => whnf) | (refine ⟨by decide, ?_⟩; conv => whnf))
                  refine .draw (digit_ok _) rfl (.inl rfl) ?_
                  rintro r ⟨d4, rfl⟩
                  conv => whnf
                  repeat (first | (refine rest_vc ?_; conv => whnf) | (refine ⟨by decide, ?_⟩; conv => whnf))
                  exact ⟨_, true, p + 3, rfl, rfl, by omega, by omega⟩
          · exact ⟨_, false, p + 1, rfl, rfl, by omega, by omega⟩
end Go.Proofs.YtafngalmkblipaaGreatDoor
/- law10: the program's words: texts, weakly. -/
set_option linter.all false
set_option maxHeartbeats 4000000
set_option maxRecDepth 100000
namespace Go.Proofs.YtafngalmkblipaaGreatDoor
open Go Go.RowKit Go.Sy Go.Proofs

theorem text_ok (s : ByteArray) (p : Nat) (sg : PV) (hs : (s.size : Int) ≤ 1000000) (hp : p < s.size) : CallOk Tryz.prog 176 [.ptr 0 0] [scR s p sg] (TkR s p sg) := by
  refine callOk_of false 1 Tryz.func176 rfl rfl (Nat.le_refl _) ?_
  conv => whnf
  repeat (first | (refine rest_vc ?_; conv => whnf) | (refine ⟨by decide, ?_⟩; conv => whnf))
  intro q hq
  obtain rfl : PV.val (.int .i64 ((p : Int) : Int)) = q := Option.some.inj hq
  conv => whnf
  repeat (first | (refine rest_vc ?_; conv => whnf) | (refine ⟨by decide, ?_⟩; conv => whnf))
  rw [show IntKind.i64.wrap ((p : Int) + 1) = ((p + 1 : Nat) : Int) from succ64 (by omega)]
  conv => whnf
  repeat (first | (refine rest_vc ?_; conv => whnf) | (refine ⟨by decide, ?_⟩; conv => whnf))
  refine hand_ghost 4 5 1 rfl ?_
  refine awp_loop2 (n := 80) (α := Nat) (β := List Int) (fun j l => p < j ∧ j ≤ s.size ∧ l.length ≤ j) (fun j l => [(0, .ptr 0 0), (2, .ptr 1 0), (3, vB false), (4, .vref 2 0)])
    (fun j l => [scR s j sg, .cells 145 [vI .i64 0, vI .i64 0, vI .i64 0, vS noS], .vec 0 5 1 (u8s l).isEmpty (u8s l)]) (fun j l => s.size - j) (p + 1) [] (fun _ => 0)
    ⟨by omega, hp, by simp⟩ rfl ⟨rfl, rfl, rfl, rfl, trivial⟩ rfl (fun _ _ => rfl) (fun _ _ => ⟨(by show 1 ≤ 3; omega), rfl, rfl⟩) ?_
  rintro j l ⟨hpj, hj, hlj⟩
  have hol : (u8s l).length ≤ 1000000 := by rw [u8s_len]; omega
  conv => whnf
  repeat (first | (refine rest_vc ?_; conv => whnf) | (refine ⟨by decide, ?_⟩; conv => whnf))
  refine hand_draw [] (fun _ _ => True) rfl (by kernel_rfl) rfl ?_
  conv => whnf
  repeat (first | (refine rest_vc ?_; conv => whnf) | (refine ⟨by decide, ?_⟩; conv => whnf))
  intro q hq
  obtain rfl : PV.val (.int .i64 ((j : Int) : Int)) = q := Option.some.inj hq
  conv => whnf
  repeat (first | (refine rest_vc ?_; conv => whnf) | (refine ⟨by decide, ?_⟩; conv => whnf))
  intro q hq
  obtain rfl : PV.val (.string s) = q := Option.some.inj hq
  conv => whnf
  repeat (first | (refine rest_vc ?_; conv => whnf) | (refine ⟨by decide, ?_⟩; conv => whnf))
  split <;> rename_i h1 <;> (conv => whnf) <;> repeat (first | (refine rest_vc ?_; conv => whnf) | (refine ⟨by decide, ?_⟩; conv => whnf))
  · have h1 := of_decide_eq_true h1
    have hb := atB_lt s.toList j
    refine hand_draw [] (fun _ _ => True) rfl (by kernel_rfl) rfl ?_
    conv => whnf
    repeat (first | (refine rest_vc ?_; conv => whnf) | (refine ⟨by decide, ?_⟩; conv => whnf))
    intro q hq
    obtain rfl : PV.val (.string s) = q := Option.some.inj hq
    conv => whnf
    repeat (first | (refine rest_vc ?_; conv => whnf) | (refine ⟨by decide, ?_⟩; conv => whnf))
    intro q hq
    obtain rfl : PV.val (.int .i64 ((j : Int) : Int)) = q := Option.some.inj hq
    conv => whnf
    repeat (first | (refine rest_vc ?_; conv => whnf) | (refine ⟨by decide, ?_⟩; conv => whnf))
    refine ⟨⟨by omega, by omega⟩, ?_⟩
    rw [show byteAt s (j : Int).toNat = ((atB s.toList j : Nat) : Int) from byteAt_atB s j]
    conv => whnf
    repeat (first | (refine rest_vc ?_; conv => whnf) | (refine ⟨by decide, ?_⟩; conv => whnf))
    intro q hq
    obtain rfl : PV.val (.int .i64 ((j : Int) : Int)) = q := Option.some.inj hq
    conv => whnf
    repeat (first | (refine rest_vc ?_; conv => whnf) | (refine ⟨by decide, ?_⟩; conv => whnf))
    rw [show IntKind.i64.wrap ((j : Int) + 1) = ((j + 1 : Nat) : Int) from succ64 (by omega)]
    conv => whnf
    repeat (first | (refine rest_vc ?_; conv => whnf) | (refine ⟨by decide, ?_⟩; conv => whnf))
    split <;> rename_i h2 <;> (conv => whnf) <;> repeat (first | (refine rest_vc ?_; conv => whnf) | (refine ⟨by decide, ?_⟩; conv => whnf))
    · refine ⟨⟨l, rfl⟩, fun l' hl' => ?_⟩
      obtain rfl := u8s_inj hl'
      conv => whnf
      repeat (first | (refine rest_vc ?_; conv => whnf) | (refine ⟨by decide, ?_⟩; conv => whnf))
      intro _
      conv => whnf
      repeat (first | (refine rest_vc ?_; conv => whnf) | (refine ⟨by decide, ?_⟩; conv => whnf))
      split <;> rename_i h3 <;> (conv => whnf) <;> repeat (first | (refine rest_vc ?_; conv => whnf) | (refine ⟨by decide, ?_⟩; conv => whnf))
      · exact ⟨2, 0, 0, _, true, j + 1, rfl, rfl, by omega, by omega, fun _ => ⟨by decide, by omega⟩⟩
      · exact ⟨2, 0, 0, _, false, j + 1, rfl, rfl, by omega, by omega, fun h => by cases h⟩
    · split <;> rename_i h4 <;> (conv => whnf) <;> repeat (first | (refine rest_vc ?_; conv => whnf) | (refine ⟨by decide, ?_⟩; conv => whnf))
      · exact ⟨0, 0, 0, noS, false, j + 1, rfl, rfl, by omega, by omega, fun h => by cases h⟩
      · refine ⟨⟨by omega, by omega⟩, ?_⟩
        conv => whnf
        repeat (first | (refine rest_vc ?_; conv => whnf) | (refine ⟨by decide, ?_⟩; conv => whnf))
        refine ⟨(by show 0 + 2 + ((atB s.toList j : Nat) : Int).toNat * 1 < 259; omega), fun q hq => ?_⟩
        have hq : (scX s ((j + 1 : Nat) : Int) sg)[0 + 2 + ((atB s.toList j : Nat) : Int).toNat * 1]? = some q := hq
        rw [show 0 + 2 + ((atB s.toList j : Nat) : Int).toNat * 1 = 2 + atB s.toList j by omega, scX_cls hb] at hq
        obtain rfl := Option.some.inj hq
        conv => whnf
        repeat (first | (refine rest_vc ?_; conv => whnf) | (refine ⟨by decide, ?_⟩; conv => whnf))
        split <;> rename_i h5 <;> (conv => whnf) <;> repeat (first | (refine rest_vc ?_; conv => whnf) | (refine ⟨by decide, ?_⟩; conv => whnf))
        · exact ⟨0, 0, 0, noS, false, j + 1, rfl, rfl, by omega, by omega, fun h => by cases h⟩
        · split <;> rename_i h6 <;> (conv => whnf) <;> repeat (first | (refine rest_vc ?_; conv => whnf) | (refine ⟨by decide, ?_⟩; conv => whnf))
          · refine CallIn.o [0] (escaped_ok s (j + 1) sg hs (by omega)) (k := ?_)
            rintro r st' ⟨e, c, p', rfl, rfl, hpe, hpe2⟩
            conv => whnf
            repeat (first | (refine rest_vc ?_; conv => whnf) | (refine ⟨by decide, ?_⟩; conv => whnf))
            cases c with
            | false =>
              conv => whnf
              repeat (first | (refine rest_vc ?_; conv => whnf) | (refine ⟨by decide, ?_⟩; conv => whnf))
              exact ⟨0, 0, 0, noS, false, p', rfl, rfl, by omega, hpe2, fun h => by cases h⟩
            | true =>
              conv => whnf
              repeat (first | (refine rest_vc ?_; conv => whnf) | (refine ⟨by decide, ?_⟩; conv => whnf))
              refine ⟨by exact Nat.le_trans (Nat.mul_le_mul_right _ (Nat.add_le_add_right hol 1)) (by decide), ?_⟩
              conv => whnf
              repeat (first | (refine rest_vc ?_; conv => whnf) | (refine ⟨by decide, ?_⟩; conv => whnf))
              refine ⟨p', l ++ [e], fun o => if o = 2 then 1 else 0, ⟨by omega, by omega, by simp; omega⟩, by omega, rfl, ⟨rfl, rfl, rfl, rfl, trivial⟩, ?_, fun o ho => by have : o < 1 := ho; simp; omega⟩
              rw [show u8s (l ++ [e]) = u8s l ++ [.val (.int .u8 e)] by simp [u8s], ← isEmpty_snoc (u8s l).isEmpty]
              rfl
          · refine ⟨by exact Nat.le_trans (Nat.mul_le_mul_right _ (Nat.add_le_add_right hol 1)) (by decide), ?_⟩
            conv => whnf
            repeat (first | (refine rest_vc ?_; conv => whnf) | (refine ⟨by decide, ?_⟩; conv => whnf))
            refine ⟨j + 1, l ++ [((atB s.toList j : Nat) : Int)], fun o => if o = 2 then 1 else 0, ⟨by omega, by omega, by simp; omega⟩, by omega, rfl, ⟨rfl, rfl, rfl, rfl, trivial⟩, ?_, fun o ho => by have : o < 1 := ho; simp; omega⟩
            rw [show u8s (l ++ [((atB s.toList j : Nat) : Int)]) = u8s l ++ [.val (.int .u8 ((atB s.toList j : Nat) : Int))] by simp [u8s], ← isEmpty_snoc (u8s l).isEmpty]
            rfl
  · exact ⟨0, 0, 0, noS, false, j, rfl, rfl, by omega, hj, fun h => by cases h⟩
end Go.Proofs.YtafngalmkblipaaGreatDoor
/- law10: the program's words: one token. -/
set_option linter.all false
set_option maxHeartbeats 4000000
set_option maxRecDepth 100000
namespace Go.Proofs.YtafngalmkblipaaGreatDoor
open Go Go.RowKit Go.Sy Go.Proofs

/-- What the taking of a number gives is told weakly. -/
def NumOk (f : FuncId) : Prop := ∀ (s : ByteArray) (p : Nat) (sg : PV), (s.size : Int) ≤ 1000000 → p < s.size → isC s p [3] = true → CallOk Tryz.prog f [.ptr 0 0] [scR s p sg] (TkR s p sg)
def TokR (s : ByteArray) (p : Nat) (sg : PV) (r : SV) (st' : List Ob) : Prop :=
  if isC s p [2] = true then r = .tup [.pure (tkW (s.extract p (wdN s (bhdN s [2, 3] p)))), vB (decide (wdN s (bhdN s [2, 3] p) - p ≤ 16))] ∧ st' = [scR s (wdN s (bhdN s [2, 3] p) : Nat) sg]
  else TkR s p sg r st'
theorem token_ok (hn : NumOk 175) (s : ByteArray) (p : Nat) (l : List ByteArray) (hl : (l.length : Int) ≤ 1000) (hx : ∀ x ∈ l, 0 < x.size ∧ (x.size : Int) ≤ 1000) (hs : (s.size : Int) ≤ 1000000) (hp : p < s.size) :
    CallOk Tryz.prog 155 [.ptr 0 0] [scR s p (sgL l)] (TokR s p (sgL l)) := by
  have hc2 := is_ok s p (sgL l) p false [2] (by decide) (by omega) (by omega)
  have hc3 := is_ok s p (sgL l) p false [3] (by decide) (by omega) (by omega)
  have hnum := hn s p (sgL l) hs hp
  unfold TokR
  generalize isC s p [2] = b2 at *
  generalize isC s p [3] = b3 at *
  refine callOk_of false 1 Tryz.func155 rfl rfl (Nat.le_refl _) ?_
  conv => whnf
  repeat (first | (refine rest_vc ?_; conv => whnf) | (refine ⟨by decide, ?_⟩; conv => whnf))
  intro q hq
  obtain rfl : PV.val (.int .i64 (p : Int)) = q := Option.some.inj hq
  conv => whnf
  repeat (first | (refine rest_vc ?_; conv => whnf) | (refine ⟨by decide, ?_⟩; conv => whnf))
  refine CallIn.o [0] (hc2) (k := ?_)
  rintro r st' ⟨rfl, rfl⟩
  conv => whnf
  repeat (first | (refine rest_vc ?_; conv => whnf) | (refine ⟨by decide, ?_⟩; conv => whnf))
  cases b2 with
  | true =>
    conv => whnf
    repeat (first | (refine rest_vc ?_; conv => whnf) | (refine ⟨by decide, ?_⟩; conv => whnf))
    refine CallIn.o [0] (word_ok s p (sgL l) hs (by omega)) (k := ?_)
    rintro r st' ⟨rfl, rfl⟩
    conv => whnf
    repeat (first | (refine rest_vc ?_; conv => whnf) | (refine ⟨by decide, ?_⟩; conv => whnf))
    exact ⟨rfl, rfl⟩
  | false =>
    conv => whnf
    repeat (first | (refine rest_vc ?_; conv => whnf) | (refine ⟨by decide, ?_⟩; conv => whnf))
    intro q hq
    obtain rfl : PV.val (.int .i64 (p : Int)) = q := Option.some.inj hq
    conv => whnf
    repeat (first | (refine rest_vc ?_; conv => whnf) | (refine ⟨by decide, ?_⟩; conv => whnf))
    refine CallIn.o [0] (hc3) (k := ?_)
    rintro r st' ⟨rfl, rfl⟩
    conv => whnf
    repeat (first | (refine rest_vc ?_; conv => whnf) | (refine ⟨by decide, ?_⟩; conv => whnf))
    cases b3 with
    | true =>
      conv => whnf
      repeat (first | (refine rest_vc ?_; conv => whnf) | (refine ⟨by decide, ?_⟩; conv => whnf))
      refine CallIn.o [0] (hnum rfl) (k := ?_)
      rintro r st' ⟨k, n, a, x, c, p', rfl, rfl, h1, h2, h3⟩
      conv => whnf
      repeat (first | (refine rest_vc ?_; conv => whnf) | (refine ⟨by decide, ?_⟩; conv => whnf))
      exact ⟨k, n, a, x, c, p', rfl, rfl, h1, h2, h3⟩
    | false =>
      conv => whnf
      repeat (first | (refine rest_vc ?_; conv => whnf) | (refine ⟨by decide, ?_⟩; conv => whnf))
      refine hand_draw [] (fun _ _ => True) rfl (by kernel_rfl) rfl ?_
      conv => whnf
      repeat (first | (refine rest_vc ?_; conv => whnf) | (refine ⟨by decide, ?_⟩; conv => whnf))
      intro q hq
      obtain rfl : PV.val (.string s) = q := Option.some.inj hq
      conv => whnf
      repeat (first | (refine rest_vc ?_; conv => whnf) | (refine ⟨by decide, ?_⟩; conv => whnf))
      intro q hq
      obtain rfl : PV.val (.int .i64 (p : Int)) = q := Option.some.inj hq
      conv => whnf
      repeat (first | (refine rest_vc ?_; conv => whnf) | (refine ⟨by decide, ?_⟩; conv => whnf))
      refine ⟨⟨by omega, by omega⟩, ?_⟩
      conv => whnf
      repeat (first | (refine rest_vc ?_; conv => whnf) | (refine ⟨by decide, ?_⟩; conv => whnf))
      split <;> rename_i h4 <;> (conv => whnf) <;> repeat (first | (refine rest_vc ?_; conv => whnf) | (refine ⟨by decide, ?_⟩; conv => whnf))
      · refine CallIn.o [0] (text_ok s p (sgL l) hs hp) (k := ?_)
        rintro r st' ⟨k, n, a, x, c, p', rfl, rfl, h1, h2, h3⟩
        conv => whnf
        repeat (first | (refine rest_vc ?_; conv => whnf) | (refine ⟨by decide, ?_⟩; conv => whnf))
        exact ⟨k, n, a, x, c, p', rfl, rfl, h1, h2, h3⟩
      · refine CallIn.o [0] (sign_ok s p l hl hx hs (by omega)) (k := ?_)
        rintro r st' ⟨k, n, a, x, c, p', rfl, rfl, h1, h2, h3⟩
        conv => whnf
        repeat (first | (refine rest_vc ?_; conv => whnf) | (refine ⟨by decide, ?_⟩; conv => whnf))
        exact ⟨k, n, a, x, c, p', rfl, rfl, h1, h2, h3⟩
end Go.Proofs.YtafngalmkblipaaGreatDoor
/- law10: the program's words: numbers, weakly. -/
set_option linter.all false
set_option maxHeartbeats 4000000
set_option maxRecDepth 100000
namespace Go.Proofs.YtafngalmkblipaaGreatDoor
open Go Go.RowKit Go.Sy Go.Proofs

abbrev s0x : ByteArray := ⟨#[48, 120]⟩
theorem num103 : NumOk 175 := by
  intro s p sg hs hp h3
  have e2 : IntKind.i64.wrap ((p : Int) + 2) = ((p + 2 : Nat) : Int) := by rw [w64 (by omega) (by omega)]; omega
  have hes : (s.extract p s.size).size = s.size - p := by rw [ByteArray.size_extract]; omega
  have hcall := hasP_ok (s.extract p s.size) s0x (by omega) (by decide)
  have hle : hasP (s.extract p s.size) s0x = true → p + 2 ≤ s.size := fun h => by have := hasP_len h; have e : s0x.size = 2 := rfl; omega
  generalize hb : hasP (s.extract p s.size) s0x = b at *
  refine callOk_of false 1 Tryz.func175 rfl rfl (Nat.le_refl _) ?_
  conv => whnf
  repeat (first | (refine rest_vc ?_; conv => whnf) | (refine ⟨by decide, ?_⟩; conv => whnf))
  refine hand_draw [] (fun _ z => z = vB b) rfl (by kernel_rfl) rfl ?_
  conv => whnf
  repeat (first | (refine rest_vc ?_; conv => whnf) | (refine ⟨by decide, ?_⟩; conv => whnf))
  intro q hq
  obtain rfl : PV.val (.string s) = q := Option.some.inj hq
  conv => whnf
  repeat (first | (refine rest_vc ?_; conv => whnf) | (refine ⟨by decide, ?_⟩; conv => whnf))
  intro q hq
  obtain rfl : PV.val (.int .i64 ((p : Int) : Int)) = q := Option.some.inj hq
  conv => whnf
  repeat (first | (refine rest_vc ?_; conv => whnf) | (refine ⟨by decide, ?_⟩; conv => whnf))
  refine ⟨⟨by omega, by omega⟩, ?_⟩
  conv => whnf
  repeat (first | (refine rest_vc ?_; conv => whnf) | (refine ⟨by decide, ?_⟩; conv => whnf))
  refine CallIn.dto (hcall) (k := ?_)
  conv => whnf
  repeat (first | (refine rest_vc ?_; conv => whnf) | (refine ⟨by decide, ?_⟩; conv => whnf))
  cases b with
  | true =>
    have h2 := hle rfl
    conv => whnf
    repeat (first | (refine rest_vc ?_; conv => whnf) | (refine ⟨by decide, ?_⟩; conv => whnf))
    intro q hq
    obtain rfl : PV.val (.int .i64 ((p : Int) : Int)) = q := Option.some.inj hq
    conv => whnf
    repeat (first | (refine rest_vc ?_; conv => whnf) | (refine ⟨by decide, ?_⟩; conv => whnf))
    rw [e2]
    conv => whnf
    repeat (first | (refine rest_vc ?_; conv => whnf) | (refine ⟨by decide, ?_⟩; conv => whnf))
    refine awp_loop (n := 209) (α := Nat) (fun j => p + 2 ≤ j ∧ j ≤ s.size) (fun j => [(0, .ptr 0 0), (2, .ptr 1 0), (3, vB false), (4, vI .i64 ((p + 2 : Nat) : Int))])
      (fun j => [scR s j sg, .cells 145 [vI .i64 0, vI .i64 0, vI .i64 0, vS noS]]) (fun j => s.size - j) (p + 2) (fun _ => 0)
      ⟨by omega, h2⟩ rfl ⟨rfl, rfl, rfl, rfl, trivial⟩ rfl (fun _ _ => rfl) (fun _ => ⟨(by show 1 ≤ 2; omega), rfl, rfl⟩) ?_
    rintro j ⟨hpj, hj⟩
    conv => whnf
    repeat (first | (refine rest_vc ?_; conv => whnf) | (refine ⟨by decide, ?_⟩; conv => whnf))
    refine hand_draw [] (fun _ z => ∃ m : Int, z = vI .i64 m) rfl (by kernel_rfl) rfl ?_
    conv => whnf
    repeat (first | (refine rest_vc ?_; conv => whnf) | (refine ⟨by decide, ?_⟩; conv => whnf))
    intro q hq
    obtain rfl : PV.val (.int .i64 ((j : Int) : Int)) = q := Option.some.inj hq
    conv => whnf
    repeat (first | (refine rest_vc ?_; conv => whnf) | (refine ⟨by decide, ?_⟩; conv => whnf))
    intro q hq
    obtain rfl : PV.val (.string s) = q := Option.some.inj hq
    conv => whnf
    repeat (first | (refine rest_vc ?_; conv => whnf) | (refine ⟨by decide, ?_⟩; conv => whnf))
    split <;> rename_i h1 <;> (conv => whnf) <;> repeat (first | (refine rest_vc ?_; conv => whnf) | (refine ⟨by decide, ?_⟩; conv => whnf))
    · have h1 := of_decide_eq_true h1
      intro q hq
      obtain rfl : PV.val (.string s) = q := Option.some.inj hq
      conv => whnf
      repeat (first | (refine rest_vc ?_; conv => whnf) | (refine ⟨by decide, ?_⟩; conv => whnf))
      intro q hq
      obtain rfl : PV.val (.int .i64 ((j : Int) : Int)) = q := Option.some.inj hq
      conv => whnf
      repeat (first | (refine rest_vc ?_; conv => whnf) | (refine ⟨by decide, ?_⟩; conv => whnf))
      refine ⟨⟨by omega, by omega⟩, ?_⟩
      conv => whnf
      repeat (first | (refine rest_vc ?_; conv => whnf) | (refine ⟨by decide, ?_⟩; conv => whnf))
      refine .draw (digit_ok _) rfl (.inl rfl) ?_
      rintro r ⟨d, rfl⟩
      conv => whnf
      repeat (first | (refine rest_vc ?_; conv => whnf) | (refine ⟨by decide, ?_⟩; conv => whnf))
      split <;> rename_i h4 <;> (conv => whnf) <;> repeat (first | (refine rest_vc ?_; conv => whnf) | (refine ⟨by decide, ?_⟩; conv => whnf))
      · intro q hq
        obtain rfl : PV.val (.int .i64 ((j : Int) : Int)) = q := Option.some.inj hq
        conv => whnf
        repeat (first | (refine rest_vc ?_; conv => whnf) | (refine ⟨by decide, ?_⟩; conv => whnf))
        rw [show IntKind.i64.wrap ((j : Int) + 1) = ((j + 1 : Nat) : Int) from succ64 (by omega)]
        conv => whnf
        repeat (first | (refine rest_vc ?_; conv => whnf) | (refine ⟨by decide, ?_⟩; conv => whnf))
        exact ⟨j + 1, fun _ => 0, ⟨by omega, by omega⟩, by omega, rfl, ⟨rfl, rfl, rfl, rfl, trivial⟩, rfl, fun _ _ => rfl⟩
      · refine hand_draw [] (fun _ z => ∃ (m : Int) (c : Bool), z = .tup [vI .i64 m, vB c]) rfl (by kernel_rfl) rfl ?_
        conv => whnf
        repeat (first | (refine rest_vc ?_; conv => whnf) | (refine ⟨by decide, ?_⟩; conv => whnf))
        intro q hq
        obtain rfl : PV.val (.string s) = q := Option.some.inj hq
        conv => whnf
        repeat (first | (refine rest_vc ?_; conv => whnf) | (refine ⟨by decide, ?_⟩; conv => whnf))
        intro q hq
        obtain rfl : PV.val (.int .i64 ((j : Int) : Int)) = q := Option.some.inj hq
        conv => whnf
        repeat (first | (refine rest_vc ?_; conv => whnf) | (refine ⟨by decide, ?_⟩; conv => whnf))
        refine ⟨⟨by omega, by omega⟩, ?_⟩
        conv => whnf
        repeat (first | (refine rest_vc ?_; conv => whnf) | (refine ⟨by decide, ?_⟩; conv => whnf))
        refine ⟨⟨by omega, by omega⟩, ?_⟩
        conv => whnf
        repeat (first | (refine rest_vc ?_; conv => whnf) | (refine ⟨by decide, ?_⟩; conv => whnf))
        refine .draw (valued_ok _ 16 (by rw [ByteArray.size_extract]; omega)) rfl (.inl rfl) ?_
        rintro r ⟨m, c, rfl⟩
        conv => whnf
        repeat (first | (refine rest_vc ?_; conv => whnf) | (refine ⟨by decide, ?_⟩; conv => whnf))
        exact ⟨1, m, 0, noS, c, j, rfl, rfl, by omega, hj, fun _ => ⟨by decide, by omega⟩⟩
    · refine hand_draw [] (fun _ z => ∃ (m : Int) (c : Bool), z = .tup [vI .i64 m, vB c]) rfl (by kernel_rfl) rfl ?_
      conv => whnf
      repeat (first | (refine rest_vc ?_; conv => whnf) | (refine ⟨by decide, ?_⟩; conv => whnf))
      intro q hq
      obtain rfl : PV.val (.string s) = q := Option.some.inj hq
      conv => whnf
      repeat (first | (refine rest_vc ?_; conv => whnf) | (refine ⟨by decide, ?_⟩; conv => whnf))
      intro q hq
      obtain rfl : PV.val (.int .i64 ((j : Int) : Int)) = q := Option.some.inj hq
      conv => whnf
      repeat (first | (refine rest_vc ?_; conv => whnf) | (refine ⟨by decide, ?_⟩; conv => whnf))
      refine ⟨⟨by omega, by omega⟩, ?_⟩
      conv => whnf
      repeat (first | (refine rest_vc ?_; conv => whnf) | (refine ⟨by decide, ?_⟩; conv => whnf))
      refine ⟨⟨by omega, by omega⟩, ?_⟩
      conv => whnf
      repeat (first | (refine rest_vc ?_; conv => whnf) | (refine ⟨by decide, ?_⟩; conv => whnf))
      refine .draw (valued_ok _ 16 (by rw [ByteArray.size_extract]; omega)) rfl (.inl rfl) ?_
      rintro r ⟨m, c, rfl⟩
      conv => whnf
      repeat (first | (refine rest_vc ?_; conv => whnf) | (refine ⟨by decide, ?_⟩; conv => whnf))
      exact ⟨1, m, 0, noS, c, j, rfl, rfl, by omega, hj, fun _ => ⟨by decide, by omega⟩⟩
  | false =>
    conv => whnf
    repeat (first | (refine rest_vc ?_; conv => whnf) | (refine ⟨by decide, ?_⟩; conv => whnf))
    intro q hq
    obtain rfl : PV.val (.int .i64 ((p : Int) : Int)) = q := Option.some.inj hq
    conv => whnf
    repeat (first | (refine rest_vc ?_; conv => whnf) | (refine ⟨by decide, ?_⟩; conv => whnf))
    intro q hq
    obtain rfl : PV.val (.int .i64 ((p : Int) : Int)) = q := Option.some.inj hq
    conv => whnf
    repeat (first | (refine rest_vc ?_; conv => whnf) | (refine ⟨by decide, ?_⟩; conv => whnf))
    refine CallIn.o [0] (behind_ok s p sg p false [3] (by decide) (by omega) (by omega)) (k := ?_)
    rintro r st' ⟨rfl, rfl⟩
    conv => whnf
    repeat (first | (refine rest_vc ?_; conv => whnf) | (refine ⟨by decide, ?_⟩; conv => whnf))
    have hg := bhdN_ge s [3] (s.size - (p + 1)) (p + 1) rfl
    have hat := bhdN_at s [3] p
    rw [h3, if_pos rfl] at hat
    obtain ⟨e, he⟩ : ∃ e, e = bhdN s [3] p := ⟨_, rfl⟩
    have hpe : p < e ∧ e ≤ s.size := by rw [he, hat]; exact ⟨by omega, hg.2 (by omega)⟩
    rw [← he]
    refine hand_draw [10] (fun _ _ => True) rfl (by kernel_rfl) rfl ?_
    conv => whnf
    repeat (first | (refine rest_vc ?_; conv => whnf) | (refine ⟨by decide, ?_⟩; conv => whnf))
    intro q hq
    obtain rfl : PV.val (.string s) = q := Option.some.inj hq
    conv => whnf
    repeat (first | (refine rest_vc ?_; conv => whnf) | (refine ⟨by decide, ?_⟩; conv => whnf))
    intro q hq
    obtain rfl : PV.val (.int .i64 ((e : Int) : Int)) = q := Option.some.inj hq
    conv => whnf
    repeat (first | (refine rest_vc ?_; conv => whnf) | (refine ⟨by decide, ?_⟩; conv => whnf))
    refine ⟨⟨by omega, by omega⟩, ?_⟩
    conv => whnf
    repeat (first | (refine rest_vc ?_; conv => whnf) | (refine ⟨by decide, ?_⟩; conv => whnf))
    refine ⟨⟨by omega, by omega⟩, ?_⟩
    conv => whnf
    repeat (first | (refine rest_vc ?_; conv => whnf) | (refine ⟨by decide, ?_⟩; conv => whnf))
    refine hand_exit 2 209 (α := Nat × List ByteArray) (fun y => p < y.1 ∧ y.1 ≤ s.size ∧ y.2.length ≤ y.1 ∧ (∀ x ∈ y.2, x.size ≤ s.size) ∧ 0 < y.2.length) (fun _ => [(0, .ptr 0 0), (2, .ptr 1 0), (3, vB false), (8, .vref 2 0)])
      (fun y => [scR s y.1 sg, .cells 145 [vI .i64 0, vI .i64 0, vI .i64 0, vS noS], .vec 0 9 1 y.2.isEmpty (y.2.map pvB)]) (fun _ => ⟨(by show 1 ≤ 3; omega), rfl, rfl⟩) ?_ ?_
    rotate_left
    · rintro ⟨j, L⟩ ⟨hpj, hj, hLj, hLs, hL0⟩
      simp only at hpj hj hLj hLs hL0 ⊢
      have hLl : (L.map pvB).length = L.length := List.length_map ..
      refine rest_vc ?_
      conv => whnf
      repeat (first | (refine rest_vc ?_; conv => whnf) | (refine ⟨by decide, ?_⟩; conv => whnf))
      intro _
      conv => whnf
      repeat (first | (refine rest_vc ?_; conv => whnf) | (refine ⟨by decide, ?_⟩; conv => whnf))
      split <;> rename_i g1 <;> (conv => whnf) <;> repeat (first | (refine rest_vc ?_; conv => whnf) | (refine ⟨by decide, ?_⟩; conv => whnf))
      · have g1 : ((L.map pvB).length : Int) = 1 := beq_iff_eq.1 g1
        refine ⟨⟨by omega, by show (0 : Int) < ((L.map pvB).length : Int); omega⟩, ?_⟩
        conv => whnf
        repeat (first | (refine rest_vc ?_; conv => whnf) | (refine ⟨by decide, ?_⟩; conv => whnf))
        refine ⟨by omega, fun z hz => ?_⟩
        obtain ⟨x, hxl, rfl⟩ : ∃ x, L[0]? = some x ∧ pvB x = z := by
          have hz' : (L.map pvB)[0]? = some z := by simpa using hz
          rw [List.getElem?_map, Option.map_eq_some_iff] at hz'
          exact hz'
        have hxs := hLs x (List.mem_of_getElem? hxl)
        conv => whnf
        repeat (first | (refine rest_vc ?_; conv => whnf) | (refine ⟨by decide, ?_⟩; conv => whnf))
        refine CallIn.top (valued_ok x 10 (by omega)) (k := ?_)
        rintro r ⟨m, c, rfl⟩
        conv => whnf
        repeat (first | (refine rest_vc ?_; conv => whnf) | (refine ⟨by decide, ?_⟩; conv => whnf))
        exact ⟨1, m, 0, noS, c, j, rfl, rfl, by omega, hj, fun _ => ⟨by decide, by omega⟩⟩
      · intro _
        conv => whnf
        repeat (first | (refine rest_vc ?_; conv => whnf) | (refine ⟨by decide, ?_⟩; conv => whnf))
        split <;> rename_i g2 <;> (conv => whnf) <;> repeat (first | (refine rest_vc ?_; conv => whnf) | (refine ⟨by decide, ?_⟩; conv => whnf))
        · intro _
          conv => whnf
          repeat (first | (refine rest_vc ?_; conv => whnf) | (refine ⟨by decide, ?_⟩; conv => whnf))
          refine awp_loop3 (n := 209) (α := Nat) (β := Int) (γ := Bool) (fun i m c => i ≤ L.length) (fun i m c => [(2, .ptr 1 0), (3, vB false), (11, vI .i64 m), (12, vB c), (181, .vref 2 0), (182, vI .i64 (L.length : Nat)), (183, vI .i64 i)])
            (fun _ _ _ => [scR s j sg, .cells 145 [vI .i64 0, vI .i64 0, vI .i64 0, vS noS], .vec 0 9 1 L.isEmpty (L.map pvB)]) (fun i m c => L.length - i) 0 0 true (fun _ => 0)
            (Nat.zero_le _) rfl ⟨rfl, rfl, rfl, rfl, rfl, congrArg (vI .i64) (by rw [hLl]), rfl, trivial⟩ rfl (fun _ _ => rfl) (fun _ _ _ => ⟨(by show 1 ≤ 3; omega), rfl, rfl⟩) ?_
          rintro i m c hi
          conv => whnf
          repeat (first | (refine rest_vc ?_; conv => whnf) | (refine ⟨by decide, ?_⟩; conv => whnf))
          split <;> rename_i k1 <;> (conv => whnf) <;> repeat (first | (refine rest_vc ?_; conv => whnf) | (refine ⟨by decide, ?_⟩; conv => whnf))
          · have hlt : i < L.length := by have := of_decide_eq_true k1; omega
            refine ⟨⟨by omega, by show (i : Int) < ((L.map pvB).length : Int); omega⟩, ?_⟩
            conv => whnf
            repeat (first | (refine rest_vc ?_; conv => whnf) | (refine ⟨by decide, ?_⟩; conv => whnf))
            refine ⟨by omega, fun z hz => ?_⟩
            obtain ⟨x, hxl, rfl⟩ : ∃ x, L[i]? = some x ∧ pvB x = z := by
              have hz' : (L.map pvB)[i]? = some z := by simpa using hz
              rw [List.getElem?_map, Option.map_eq_some_iff] at hz'
              exact hz'
            have hxs := hLs x (List.mem_of_getElem? hxl)
            conv => whnf
            repeat (first | (refine rest_vc ?_; conv => whnf) | (refine ⟨by decide, ?_⟩; conv => whnf))
            refine CallIn.top (valued_ok x 10 (by omega)) (k := ?_)
            rintro r ⟨m2, c2, rfl⟩
            cases c with
            | false =>
              conv => whnf
              repeat (first | (refine rest_vc ?_; conv => whnf) | (refine ⟨by decide, ?_⟩; conv => whnf))
              exact ⟨i + 1, _, false, fun _ => 0, hlt, by omega, rfl, ⟨rfl, rfl, rfl, rfl, rfl, rfl, congrArg (vI .i64) (succ64 (by omega)), trivial⟩, rfl, fun _ _ => rfl⟩
            | true =>
              cases c2 with
              | false =>
                conv => whnf
                repeat (first | (refine rest_vc ?_; conv => whnf) | (refine ⟨by decide, ?_⟩; conv => whnf))
                exact ⟨i + 1, _, false, fun _ => 0, hlt, by omega, rfl, ⟨rfl, rfl, rfl, rfl, rfl, rfl, congrArg (vI .i64) (succ64 (by omega)), trivial⟩, rfl, fun _ _ => rfl⟩
              | true =>
                conv => whnf
                repeat (first | (refine rest_vc ?_; conv => whnf) | (refine ⟨by decide, ?_⟩; conv => whnf))
                split <;> rename_i k2 <;> (conv => whnf) <;> repeat (first | (refine rest_vc ?_; conv => whnf) | (refine ⟨by decide, ?_⟩; conv => whnf))
                · exact ⟨i + 1, _, true, fun _ => 0, hlt, by omega, rfl, ⟨rfl, rfl, rfl, rfl, rfl, rfl, congrArg (vI .i64) (succ64 (by omega)), trivial⟩, rfl, fun _ _ => rfl⟩
                · exact ⟨i + 1, _, false, fun _ => 0, hlt, by omega, rfl, ⟨rfl, rfl, rfl, rfl, rfl, rfl, congrArg (vI .i64) (succ64 (by omega)), trivial⟩, rfl, fun _ _ => rfl⟩
          · conv => whnf
            repeat (first | (refine rest_vc ?_; conv => whnf) | (refine ⟨by decide, ?_⟩; conv => whnf))
            exact ⟨1, m, 0, noS, c, j, rfl, rfl, by omega, hj, fun _ => ⟨by decide, by omega⟩⟩
        · intro _
          conv => whnf
          repeat (first | (refine rest_vc ?_; conv => whnf) | (refine ⟨by decide, ?_⟩; conv => whnf))
          refine awp_loop3 (n := 209) (α := Nat) (β := Int) (γ := Bool) (fun i m c => i ≤ L.length) (fun i m c => [(2, .ptr 1 0), (3, vB false), (11, vI .i64 m), (12, vB c), (181, .vref 2 0), (182, vI .i64 (L.length : Nat)), (183, vI .i64 i)])
            (fun _ _ _ => [scR s j sg, .cells 145 [vI .i64 0, vI .i64 0, vI .i64 0, vS noS], .vec 0 9 1 L.isEmpty (L.map pvB)]) (fun i m c => L.length - i) 0 0 false (fun _ => 0)
            (Nat.zero_le _) rfl ⟨rfl, rfl, rfl, rfl, rfl, congrArg (vI .i64) (by rw [hLl]), rfl, trivial⟩ rfl (fun _ _ => rfl) (fun _ _ _ => ⟨(by show 1 ≤ 3; omega), rfl, rfl⟩) ?_
          rintro i m c hi
          conv => whnf
          repeat (first | (refine rest_vc ?_; conv => whnf) | (refine ⟨by decide, ?_⟩; conv => whnf))
          split <;> rename_i k1 <;> (conv => whnf) <;> repeat (first | (refine rest_vc ?_; conv => whnf) | (refine ⟨by decide, ?_⟩; conv => whnf))
          · have hlt : i < L.length := by have := of_decide_eq_true k1; omega
            refine ⟨⟨by omega, by show (i : Int) < ((L.map pvB).length : Int); omega⟩, ?_⟩
            conv => whnf
            repeat (first | (refine rest_vc ?_; conv => whnf) | (refine ⟨by decide, ?_⟩; conv => whnf))
            refine ⟨by omega, fun z hz => ?_⟩
            obtain ⟨x, hxl, rfl⟩ : ∃ x, L[i]? = some x ∧ pvB x = z := by
              have hz' : (L.map pvB)[i]? = some z := by simpa using hz
              rw [List.getElem?_map, Option.map_eq_some_iff] at hz'
              exact hz'
            have hxs := hLs x (List.mem_of_getElem? hxl)
            conv => whnf
            repeat (first | (refine rest_vc ?_; conv => whnf) | (refine ⟨by decide, ?_⟩; conv => whnf))
            refine CallIn.top (valued_ok x 10 (by omega)) (k := ?_)
            rintro r ⟨m2, c2, rfl⟩
            cases c with
            | false =>
              conv => whnf
              repeat (first | (refine rest_vc ?_; conv => whnf) | (refine ⟨by decide, ?_⟩; conv => whnf))
              exact ⟨i + 1, _, false, fun _ => 0, hlt, by omega, rfl, ⟨rfl, rfl, rfl, rfl, rfl, rfl, congrArg (vI .i64) (succ64 (by omega)), trivial⟩, rfl, fun _ _ => rfl⟩
            | true =>
              cases c2 with
              | false =>
                conv => whnf
                repeat (first | (refine rest_vc ?_; conv => whnf) | (refine ⟨by decide, ?_⟩; conv => whnf))
                exact ⟨i + 1, _, false, fun _ => 0, hlt, by omega, rfl, ⟨rfl, rfl, rfl, rfl, rfl, rfl, congrArg (vI .i64) (succ64 (by omega)), trivial⟩, rfl, fun _ _ => rfl⟩
              | true =>
                conv => whnf
                repeat (first | (refine rest_vc ?_; conv => whnf) | (refine ⟨by decide, ?_⟩; conv => whnf))
                split <;> rename_i k2 <;> (conv => whnf) <;> repeat (first | (refine rest_vc ?_; conv => whnf) | (refine ⟨by decide, ?_⟩; conv => whnf))
                · exact ⟨i + 1, _, true, fun _ => 0, hlt, by omega, rfl, ⟨rfl, rfl, rfl, rfl, rfl, rfl, congrArg (vI .i64) (succ64 (by omega)), trivial⟩, rfl, fun _ _ => rfl⟩
                · exact ⟨i + 1, _, false, fun _ => 0, hlt, by omega, rfl, ⟨rfl, rfl, rfl, rfl, rfl, rfl, congrArg (vI .i64) (succ64 (by omega)), trivial⟩, rfl, fun _ _ => rfl⟩
          · conv => whnf
            repeat (first | (refine rest_vc ?_; conv => whnf) | (refine ⟨by decide, ?_⟩; conv => whnf))
            exact ⟨1, m, 0, noS, c, j, rfl, rfl, by omega, hj, fun _ => ⟨by decide, by omega⟩⟩
    refine awp_loop2 (n := 209) (α := Nat) (β := List ByteArray) (fun j L => p < j ∧ j ≤ s.size ∧ L.length ≤ j ∧ (∀ x ∈ L, x.size ≤ s.size) ∧ 0 < L.length) (fun _ _ => [(0, .ptr 0 0), (2, .ptr 1 0), (3, vB false), (8, .vref 2 0)])
      (fun j L => [scR s j sg, .cells 145 [vI .i64 0, vI .i64 0, vI .i64 0, vS noS], .vec 0 9 1 L.isEmpty (L.map pvB)]) (fun j L => s.size - j) e [s.extract p e] (fun _ => 0)
      ⟨hpe.1, hpe.2, by simp; omega, by simp [ByteArray.size_extract]; omega, by simp⟩ rfl ⟨rfl, rfl, rfl, rfl, trivial⟩ rfl (fun _ _ => rfl) (fun _ _ => ⟨(by show 1 ≤ 3; omega), rfl, rfl⟩) ?_
    rintro j L ⟨hpj, hj, hLj, hLs, hL0⟩
    have hol : (L.map pvB).length ≤ 1000000 := by rw [List.length_map]; omega
    have e1 : IntKind.i64.wrap ((j : Int) + 1) = ((j + 1 : Nat) : Int) := succ64 (by omega)
    conv => whnf
    repeat (first | (refine rest_vc ?_; conv => whnf) | (refine ⟨by decide, ?_⟩; conv => whnf))
    refine hand_draw [30] (fun _ _ => True) rfl (by kernel_rfl) rfl ?_
    conv => whnf
    repeat (first | (refine rest_vc ?_; conv => whnf) | (refine ⟨by decide, ?_⟩; conv => whnf))
    intro q hq
    obtain rfl : PV.val (.int .i64 ((j : Int) : Int)) = q := Option.some.inj hq
    conv => whnf
    repeat (first | (refine rest_vc ?_; conv => whnf) | (refine ⟨by decide, ?_⟩; conv => whnf))
    intro q hq
    obtain rfl : PV.val (.string s) = q := Option.some.inj hq
    conv => whnf
    repeat (first | (refine rest_vc ?_; conv => whnf) | (refine ⟨by decide, ?_⟩; conv => whnf))
    split <;> rename_i a1 <;> (conv => whnf) <;> repeat (first | (refine rest_vc ?_; conv => whnf) | (refine ⟨by decide, ?_⟩; conv => whnf))
    · have a1 := of_decide_eq_true a1
      intro q hq
      obtain rfl : PV.val (.string s) = q := Option.some.inj hq
      conv => whnf
      repeat (first | (refine rest_vc ?_; conv => whnf) | (refine ⟨by decide, ?_⟩; conv => whnf))
      intro q hq
      obtain rfl : PV.val (.int .i64 ((j : Int) : Int)) = q := Option.some.inj hq
      conv => whnf
      repeat (first | (refine rest_vc ?_; conv => whnf) | (refine ⟨by decide, ?_⟩; conv => whnf))
      refine ⟨⟨by omega, by omega⟩, ?_⟩
      conv => whnf
      repeat (first | (refine rest_vc ?_; conv => whnf) | (refine ⟨by decide, ?_⟩; conv => whnf))
      split <;> rename_i a2 <;> (conv => whnf) <;> repeat (first | (refine rest_vc ?_; conv => whnf) | (refine ⟨by decide, ?_⟩; conv => whnf))
      · intro q hq
        obtain rfl : PV.val (.int .i64 ((j : Int) : Int)) = q := Option.some.inj hq
        conv => whnf
        repeat (first | (refine rest_vc ?_; conv => whnf) | (refine ⟨by decide, ?_⟩; conv => whnf))
        rw [e1]
        have hci := is_ok s j sg (j + 1) false [3] (by decide) (by omega) (by omega)
        generalize isC s (j + 1) [3] = d at hci
        refine CallIn.o [0] (hci) (k := ?_)
        rintro r st' ⟨rfl, rfl⟩
        conv => whnf
        repeat (first | (refine rest_vc ?_; conv => whnf) | (refine ⟨by decide, ?_⟩; conv => whnf))
        cases d with
        | false =>
          conv => whnf
          repeat (first | (refine rest_vc ?_; conv => whnf) | (refine ⟨by decide, ?_⟩; conv => whnf))
          exact ⟨(j, L), fun _ => 0, ⟨hpj, hj, hLj, hLs, hL0⟩, rfl, ⟨rfl, rfl, rfl, rfl, trivial⟩, rfl, fun _ _ => rfl⟩
        | true =>
          conv => whnf
          repeat (first | (refine rest_vc ?_; conv => whnf) | (refine ⟨by decide, ?_⟩; conv => whnf))
          intro q hq
          obtain rfl : PV.val (.int .i64 ((j : Int) : Int)) = q := Option.some.inj hq
          conv => whnf
          repeat (first | (refine rest_vc ?_; conv => whnf) | (refine ⟨by decide, ?_⟩; conv => whnf))
          rw [e1]
          conv => whnf
          repeat (first | (refine rest_vc ?_; conv => whnf) | (refine ⟨by decide, ?_⟩; conv => whnf))
          refine CallIn.o [0] (behind_ok s j sg (j + 1) false [3] (by decide) (by omega) (by omega)) (k := ?_)
          rintro r st' ⟨rfl, rfl⟩
          conv => whnf
          repeat (first | (refine rest_vc ?_; conv => whnf) | (refine ⟨by decide, ?_⟩; conv => whnf))
          have hg2 := bhdN_ge s [3] (s.size - (j + 1)) (j + 1) rfl
          obtain ⟨f, hf⟩ : ∃ f, f = bhdN s [3] (j + 1) := ⟨_, rfl⟩
          rw [← hf] at hg2 ⊢
          have hfs := hg2.2 (by omega)
          refine hand_draw [12] (fun _ _ => True) rfl (by kernel_rfl) rfl ?_
          conv => whnf
          repeat (first | (refine rest_vc ?_; conv => whnf) | (refine ⟨by decide, ?_⟩; conv => whnf))
          intro q hq
          obtain rfl : PV.val (.string s) = q := Option.some.inj hq
          conv => whnf
          repeat (first | (refine rest_vc ?_; conv => whnf) | (refine ⟨by decide, ?_⟩; conv => whnf))
          intro q hq
          obtain rfl : PV.val (.int .i64 ((f : Int) : Int)) = q := Option.some.inj hq
          conv => whnf
          repeat (first | (refine rest_vc ?_; conv => whnf) | (refine ⟨by decide, ?_⟩; conv => whnf))
          refine ⟨⟨by omega, by omega⟩, ?_⟩
          conv => whnf
          repeat (first | (refine rest_vc ?_; conv => whnf) | (refine ⟨by decide, ?_⟩; conv => whnf))
          refine ⟨⟨by omega, by omega⟩, ?_⟩
          conv => whnf
          repeat (first | (refine rest_vc ?_; conv => whnf) | (refine ⟨by decide, ?_⟩; conv => whnf))
          refine ⟨by exact Nat.le_trans (Nat.mul_le_mul_right _ (Nat.add_le_add_right hol 1)) (by decide), ?_⟩
          conv => whnf
          repeat (first | (refine rest_vc ?_; conv => whnf) | (refine ⟨by decide, ?_⟩; conv => whnf))
          refine ⟨f, L ++ [s.extract (j + 1) f], fun o => if o = 2 then 1 else 0, ⟨by omega, hfs, by simp; omega, fun x hx => ?_, by simp⟩, by omega, rfl, ⟨rfl, rfl, rfl, rfl, trivial⟩, ?_, fun o ho => by have : o < 1 := ho; simp; omega⟩
          · rcases List.mem_append.1 hx with hx | hx
            · exact hLs x hx
            · rw [List.mem_singleton.1 hx, ByteArray.size_extract]; omega
          · rw [List.map_append, List.map_cons, List.map_nil, ← emp_map pvB, List.map_append, List.map_cons, List.map_nil, ← isEmpty_snoc (L.map pvB).isEmpty, emp_map]
            rfl
      · exact ⟨(j, L), fun _ => 0, ⟨hpj, hj, hLj, hLs, hL0⟩, rfl, ⟨rfl, rfl, rfl, rfl, trivial⟩, rfl, fun _ _ => rfl⟩
    · exact ⟨(j, L), fun _ => 0, ⟨hpj, hj, hLj, hLs, hL0⟩, rfl, ⟨rfl, rfl, rfl, rfl, trivial⟩, rfl, fun _ _ => rfl⟩
end Go.Proofs.YtafngalmkblipaaGreatDoor
/- law10: the program's words: classes of bytes, signs, a new scanner. -/
set_option linter.all false
set_option maxHeartbeats 4000000
set_option maxRecDepth 100000
namespace Go.Proofs
def YtafngalmkblipaaGreatDoor.lays157_ren : Go.Shelf.Ren := ⟨fun | 157 => 170 | 229 => 182 | 199 => 183 | 261 => 189 | 311 => 191 | 312 => 192 | n => n, fun | 9 => 9 | 31 => 54 | 3 => 3 | 5 => 5 | 4 => 4 | 119 => 225 | 0 => 0 | 40 => 227 | 152 => 235 | 21 => 21 | 154 => 237 | 51 => 69 | 141 => 239 | 196 => 244 | 193 => 241 | 198 => 247 | 49 => 245 | 194 => 242 | 201 => 250 | 226 => 252 | 46 => 137 | 227 => 253 | n => n, fun | 0 => 2 | 6 => 5 | n => n⟩
theorem YtafngalmkblipaaGreatDoor.lays157 : Go.Proofs.Lays.n157 Tryz.prog YtafngalmkblipaaGreatDoor.lays157_ren := {
  mixed := by kernel_rfl
  f157 := Tryz.func170.trans (congrArg some (by kernel_rfl))
  f199 := Tryz.func183.trans (congrArg some (by kernel_rfl))
  f229 := Tryz.func182.trans (congrArg some (by kernel_rfl))
  f261 := Tryz.func189.trans (congrArg some (by kernel_rfl))
  f311 := Tryz.func191.trans (congrArg some (by kernel_rfl))
  f312 := Tryz.func192.trans (congrArg some (by kernel_rfl))
  t0 := Tryz.underlying0
  a0 := Tryz.isAgg0
  z0 := Tryz.sizeOf0
  v0 := Tryz.zeroValue0
  t3 := Tryz.underlying3
  a3 := Tryz.isAgg3
  z3 := Tryz.sizeOf3
  v3 := Tryz.zeroValue3
  t4 := Tryz.underlying4
  a4 := Tryz.isAgg4
  z4 := Tryz.sizeOf4
  v4 := Tryz.zeroValue4
  t5 := Tryz.underlying5
  a5 := Tryz.isAgg5
  z5 := Tryz.sizeOf5
  v5 := Tryz.zeroValue5
  t9 := Tryz.underlying9
  a9 := Tryz.isAgg9
  z9 := Tryz.sizeOf9
  v9 := Tryz.zeroValue9
  t21 := Tryz.underlying21
  a21 := Tryz.isAgg21
  z21 := Tryz.sizeOf21
  v21 := Tryz.zeroValue21
  t31 := Tryz.underlying54
  a31 := Tryz.isAgg54
  z31 := Tryz.sizeOf54
  v31 := Tryz.zeroValue54
  t40 := Tryz.underlying227
  a40 := Tryz.isAgg227
  z40 := Tryz.sizeOf227
  v40 := Tryz.zeroValue227
  t46 := Tryz.underlying137
  a46 := Tryz.isAgg137
  z46 := Tryz.sizeOf137
  v46 := Tryz.zeroValue137
  t49 := Tryz.underlying245
  a49 := Tryz.isAgg245
  z49 := Tryz.sizeOf245
  v49 := Tryz.zeroValue245
  t51 := Tryz.underlying69
  a51 := Tryz.isAgg69
  z51 := Tryz.sizeOf69
  v51 := Tryz.zeroValue69
  t119 := Tryz.underlying225
  a119 := Tryz.isAgg225
  z119 := Tryz.sizeOf225
  t141 := Tryz.underlying239
  a141 := Tryz.isAgg239
  z141 := Tryz.sizeOf239
  v141 := Tryz.zeroValue239
  t152 := Tryz.underlying235
  a152 := Tryz.isAgg235
  z152 := Tryz.sizeOf235
  v152 := Tryz.zeroValue235
  t154 := Tryz.underlying237
  a154 := Tryz.isAgg237
  z154 := Tryz.sizeOf237
  v154 := Tryz.zeroValue237
  t193 := Tryz.underlying241
  a193 := Tryz.isAgg241
  z193 := Tryz.sizeOf241
  v193 := Tryz.zeroValue241
  t194 := Tryz.underlying242
  a194 := Tryz.isAgg242
  z194 := Tryz.sizeOf242
  v194 := Tryz.zeroValue242
  t196 := Tryz.underlying244
  a196 := Tryz.isAgg244
  z196 := Tryz.sizeOf244
  v196 := Tryz.zeroValue244
  t198 := Tryz.underlying247
  a198 := Tryz.isAgg247
  z198 := Tryz.sizeOf247
  v198 := Tryz.zeroValue247
  t201 := Tryz.underlying250
  a201 := Tryz.isAgg250
  z201 := Tryz.sizeOf250
  v201 := Tryz.zeroValue250
  t226 := Tryz.underlying252
  a226 := Tryz.isAgg252
  z226 := Tryz.sizeOf252
  v226 := Tryz.zeroValue252
  t227 := Tryz.underlying253
  a227 := Tryz.isAgg253
  z227 := Tryz.sizeOf253
  v227 := Tryz.zeroValue253
  g0 := by kernel_rfl
  g6 := by kernel_rfl }
end Go.Proofs
namespace Go.Proofs.YtafngalmkblipaaGreatDoor
open Go Go.RowKit Go.Sy Go.Proofs

/-- The classes of the first bytes. -/
def clsK (i : Nat) : List PV := (List.range 256).map fun c => .val (.int .i64 (if c < i then clsN c else 0 : Nat))
theorem clsK_len (i : Nat) : (clsK i).length = 256 := by simp [clsK]
theorem clsK_zero : clsK 0 = List.replicate 256 (.val (.int .i64 0)) := by kernel_rfl
theorem clsK_end : clsK 256 = clsP := by
  unfold clsK clsP
  exact List.map_congr_left fun c hc => by rw [if_pos (List.mem_range.1 hc)]
theorem clsK_set {i : Nat} {v : Int} (hi : i < 256) (hv : v = (clsN i : Nat)) : (clsK i).set i (.val (.int .i64 v)) = clsK (i + 1) := by
  subst hv
  apply List.ext_getElem?
  intro j
  rw [List.getElem?_set]
  unfold clsK
  simp only [List.length_map, List.length_range, List.getElem?_map]
  split
  · rename_i h
    subst h
    rw [List.getElem?_range hi]
    simp [hi]
  · rename_i h
    by_cases hj : j < 256
    · rw [List.getElem?_range hj]
      simp only [Option.map_some]
      by_cases h2 : j < i
      · rw [if_pos h2, if_pos (by omega)]
      · rw [if_neg h2, if_neg (by omega)]
    · rw [List.getElem?_eq_none (by simp; omega)]
      rfl
theorem clsK_none {i : Nat} (hi : i < 256) (hv : clsN i = 0) : clsK i = clsK (i + 1) := by
  rw [← clsK_set hi (v := 0) (by rw [hv]; rfl)]
  apply List.ext_getElem?
  intro j
  rw [List.getElem?_set]
  split
  · rename_i h
    subst h
    unfold clsK
    simp only [List.length_map, List.length_range, List.getElem?_map]
    rw [if_pos hi, List.getElem?_range hi]
    simp
  · rfl
theorem setAt_one {l : List PV} {k : Nat} {x : PV} : setAt l k [x] = l.set k x := rfl

theorem wU8 {i : Nat} (h : i < 256) : IntKind.u8.wrap (i : Int) = (i : Int) := by
  show ((i : Int) % 256 : Int) = i
  omega
theorem clsN_1 {i : Nat} (h : i = 32 ∨ i = 9 ∨ i = 10) : clsN i = 1 := by
  unfold clsN
  rw [if_pos (by simp; omega)]
theorem clsN_2 {i : Nat} (h : i = 95 ∨ (97 ≤ i ∧ i ≤ 122) ∨ (65 ≤ i ∧ i ≤ 90)) : clsN i = 2 := by
  unfold clsN isLet
  rw [if_neg (by simp; omega), if_pos (by simp; omega)]
theorem clsN_3 {i : Nat} (h : 48 ≤ i ∧ i ≤ 57) : clsN i = 3 := by
  unfold clsN isLet isDig
  rw [if_neg (by simp; omega), if_neg (by simp; omega), if_pos (by simp; omega)]
theorem clsN_4 {i : Nat} (h0 : ¬ (i = 95 ∨ (97 ≤ i ∧ i ≤ 122) ∨ (65 ≤ i ∧ i ≤ 90))) (h1 : ¬ (48 ≤ i ∧ i ≤ 57)) (h : 32 < i ∧ i < 127) : clsN i = 4 := by
  unfold clsN isLet isDig
  rw [if_neg (by simp; omega), if_neg (by simp; omega), if_neg (by simp; omega), if_pos (by simp; omega)]
theorem clsN_0 {i : Nat} (h0 : ¬ (i = 32 ∨ i = 9 ∨ i = 10)) (h : ¬ (32 < i ∧ i < 127)) : clsN i = 0 := by
  unfold clsN isLet isDig
  rw [if_neg (by simp; omega), if_neg (by simp; omega), if_neg (by simp; omega), if_neg (by simp; omega)]

theorem classes_ok : CallOk Tryz.prog 151 [] [] fun r st' => st' = [] ∧ r = .pure (.agg clsP) := by
  refine callOk_of true 0 Tryz.func151 rfl rfl (Nat.le_refl _) ?_
  conv => whnf
  repeat (refine ⟨by decide, ?_⟩; conv => whnf)
  refine rest_torow 0 rfl rfl ?_
  refine rest_vc ?_
  conv => whnf
  repeat (refine ⟨by decide, ?_⟩; conv => whnf)
  refine rest_torow 1 rfl rfl ?_
  conv => whnf
  repeat (first | (refine rest_vc ?_; conv => whnf) | (refine ⟨by decide, ?_⟩; conv => whnf))
  refine awp_loop (n := 63) (α := Nat) (fun i => i ≤ 256) (fun i => [(0, .ptr 0 0), (1, .ptr 1 0), (4, vI .i64 i)])
    (fun i => [.row 197 256 (clsK 0), .row 197 256 (clsK i)]) (fun i => 256 - i) 0 (fun _ => 0)
    (Nat.zero_le _) rfl ⟨rfl, rfl, rfl, trivial⟩ ?_ (fun _ _ => rfl) (fun _ => ⟨Nat.zero_le _, rfl, rfl⟩) ?_
  · rw [clsK_zero]; rfl
  rintro i hi
  conv => whnf
  repeat (first | (refine rest_vc ?_; conv => whnf) | (refine ⟨by decide, ?_⟩; conv => whnf))
  split <;> rename_i h1 <;> (conv => whnf) <;> repeat (first | (refine rest_vc ?_; conv => whnf) | (refine ⟨by decide, ?_⟩; conv => whnf))
  · have hi' : i < 256 := by have := of_decide_eq_true h1; omega
    rw [show IntKind.u8.wrap (i : Int) = (i : Int) from wU8 hi']
    have fin : ∀ v : Int, v = (clsN i : Nat) → (clsK i).set (i : Int).toNat (.val (.int .i64 v)) = clsK (i + 1) := fun v hv => clsK_set hi' hv
    iterate 16 (all_goals try first | (refine ⟨⟨by omega, by omega⟩, ?_⟩; (conv => whnf); refine ⟨(by show 0 + (i : Int).toNat * 1 + 1 ≤ 256; omega), ?_⟩; (conv => whnf); repeat (refine rest_vc ?_; conv => whnf)) | (split <;> rename_i hh <;> (conv => whnf) <;> repeat (first | (refine rest_vc ?_; conv => whnf) | (refine ⟨by decide, ?_⟩; conv => whnf))))
    all_goals simp only [decide_eq_true_eq, decide_eq_false_iff_not, beq_iff_eq, beq_eq_false_iff_ne, ne_eq] at *
    all_goals refine ⟨i + 1, fun _ => 0, hi', by omega, rfl, ⟨rfl, rfl, congrArg (vI .i64) (succ64 (by omega)), trivial⟩, ?_, fun _ _ => rfl⟩
    all_goals first
      | exact congrArg (fun l => [Ob.row 197 256 (clsK 0), Ob.row 197 256 l]) (clsK_none hi' (clsN_0 (by omega) (by omega)))
      | exact congrArg (fun l => [Ob.row 197 256 (clsK 0), Ob.row 197 256 l]) ((congrArg (fun n => (clsK i).set n (.val (.int .i64 _))) (show 0 + (i : Int).toNat * 1 = (i : Int).toNat by omega)).trans (fin _ (by rw [clsN_1 (by omega)]; rfl)))
      | exact congrArg (fun l => [Ob.row 197 256 (clsK 0), Ob.row 197 256 l]) ((congrArg (fun n => (clsK i).set n (.val (.int .i64 _))) (show 0 + (i : Int).toNat * 1 = (i : Int).toNat by omega)).trans (fin _ (by rw [clsN_2 (by omega)]; rfl)))
      | exact congrArg (fun l => [Ob.row 197 256 (clsK 0), Ob.row 197 256 l]) ((congrArg (fun n => (clsK i).set n (.val (.int .i64 _))) (show 0 + (i : Int).toNat * 1 = (i : Int).toNat by omega)).trans (fin _ (by rw [clsN_3 (by omega)]; rfl)))
      | exact congrArg (fun l => [Ob.row 197 256 (clsK 0), Ob.row 197 256 l]) ((congrArg (fun n => (clsK i).set n (.val (.int .i64 _))) (show 0 + (i : Int).toNat * 1 = (i : Int).toNat by omega)).trans (fin _ (by rw [clsN_4 (by omega) (by omega) (by omega)]; rfl)))
  · obtain rfl : i = 256 := by have := of_decide_eq_false h1; omega
    exact ⟨rfl, by rw [← clsK_end]; kernel_rfl⟩

/-! ## the signs -/
theorem fn98 : isFn Tryz.prog 170 := ⟨_, Tryz.func170, rfl, rfl⟩
theorem cell_of_heap {W : World} {b k : Nat} {cs : Array Value} {t : TypeId} {z : Nat × Nat} {u : Value} (h : W.heap[b]? = some (.cells cs t z)) (hu : cs[k]? = some u) : W.cell? (Addr.add ⟨b, 0, none⟩ k) = some u := by
  unfold Addr.add
  split <;> rename_i h0 <;> simp_all [World.cell?]
theorem RF_fields {χ : Nat → Color} {w : World} : ∀ (l : List (List UInt8)), RF χ w 1 (l.map fun x => pvB ⟨x.toArray⟩) (l.map fun x => Value.string ⟨x.toArray⟩)
  | [] => rfl
  | x :: l => ⟨.string ⟨x.toArray⟩, _, rfl, rfl, fun y hy => by simp [Value.cells] at hy; subst hy; rfl, rfl, RF_fields l⟩
theorem fields_ok (s : ByteArray) (hs : s.size < 1000000) (hN : (Lib.fields s.data.toList).length ≤ 1000000) (ha : ∀ (j : Nat) b, s.data.toList[j]? = some b → b.toNat < 128) :
    CallOk Tryz.prog 170 [vS s] [] fun r st' => st' = [] ∧ r = .pure (.list 1 false ((Lib.fields s.data.toList).map fun x => pvB ⟨x.toArray⟩)) := by
  intro χ G w vs hgl hargs hst hG
  obtain ⟨u, r, rfl, hu, hr⟩ := hargs
  have hr : r = [] := hr
  subst hr
  have hu : u = .string s := hu
  subst hu
  have hg : Tryz.prog.globalNamed "strings.asciiSpace" = some 2 := by kernel_rfl
  have htab : Lib.TabIs Tryz.prog w "strings.asciiSpace" .u8 Lib.asciiSpaceTab := TabAt.tabIs hg (hgl (tabFact 2 .u8 Lib.asciiSpaceTab) (by simp [glFacts]))
  refine .inl ⟨fn98, (Any.strings_Fields YtafngalmkblipaaGreatDoor.lays157 (by kernel_rfl) hg s w (by omega) ha htab).mono ?_⟩
  rintro e w' ⟨rfl, rfl⟩
  obtain ⟨L, hL⟩ : ∃ L, L = Lib.fields s.data.toList := ⟨_, rfl⟩
  rw [← hL] at hN ⊢
  have hlen : (L.map fun x => pvB ⟨x.toArray⟩).length = L.length := List.length_map ..
  refine ⟨_, _, [], upF χ w.heap.size .imm, G, ⟨rfl, rfl⟩, rfl, ⟨some ⟨w.heap.size, 0, none⟩, L.length, L.map fun x => Value.string ⟨x.toArray⟩, by rw [hlen], by omega, by unfold maxLen; omega, fun e => (by cases e), by simp, RF_fields L, ?_⟩,
    fun o ob ho => (by simp at ho), ⟨rfl, rfl, rfl, by simp, fun b hb hi => ⟨by rw [upF_ne _ _ (by omega)]; exact hi, Below.heap_alloc w _ b hb⟩, fun b hb hi => ⟨by rw [upF_ne _ _ (by omega)]; exact hi, Below.heap_alloc w _ b hb⟩⟩, Nat.le_refl _, fun o ho => absurd ho (Nat.not_lt_zero _), hG⟩
  intro k u hk
  refine ⟨_, rfl, upF_same _ _ _, ?_⟩
  simp only [List.getElem?_map, Option.map_eq_some_iff] at hk
  obtain ⟨x, hx, rfl⟩ := hk
  exact cell_of_heap (World.alloc_heap_new w _) (by simp [hx])

/-- The signs' text. -/
def sgT : ByteArray := ⟨#[60, 60, 32, 62, 62, 32, 61, 61, 32, 33, 61, 32, 60, 61, 32, 62, 61, 32, 38, 38, 32, 124, 124, 32, 46, 46, 32, 123, 32, 125, 32, 40, 32, 41, 32, 91, 32, 93, 32, 44, 32, 59, 32, 58, 32, 63, 32, 43, 32, 45, 32, 42, 32, 47, 32, 37, 32, 38, 32, 124, 32, 94, 32, 126, 32, 60, 32, 62, 32, 33, 32, 61, 32, 46, 32, 35, 32, 64]⟩
def sgs : List ByteArray := (Lib.fields sgT.data.toList).map fun x => ⟨x.toArray⟩
theorem sgs_len : (sgs.length : Int) ≤ 1000 := of_decide_eq_true (by kernel_rfl)
theorem sgs_ok : ∀ x ∈ sgs, 0 < x.size ∧ (x.size : Int) ≤ 1000 := by
  have h : (sgs.all fun x => decide (0 < x.size) && decide ((x.size : Int) ≤ 1000)) = true := by kernel_rfl
  intro x hx
  have := List.all_eq_true.1 h x hx
  simpa using this
theorem sgT_ascii : ∀ (j : Nat) b, sgT.data.toList[j]? = some b → b.toNat < 128 := by
  have h : (sgT.data.toList.all fun b => decide (b.toNat < 128)) = true := by kernel_rfl
  intro j b hb
  have := List.all_eq_true.1 h b (List.mem_of_getElem? hb)
  simpa using this
theorem signs_ok : CallOk Tryz.prog 152 [] [] fun r st' => st' = [] ∧ r = .pure (sgL sgs) := by
  refine callOk_of true 0 Tryz.func152 rfl rfl (Nat.le_refl _) ?_
  conv => whnf
  repeat (first | (refine rest_vc ?_; conv => whnf) | (refine ⟨by decide, ?_⟩; conv => whnf))
  refine CallIn.to (fields_ok sgT (by decide) (of_decide_eq_true (by kernel_rfl)) sgT_ascii) (k := ?_)
  conv => whnf
  repeat (first | (refine rest_vc ?_; conv => whnf) | (refine ⟨by decide, ?_⟩; conv => whnf))
  exact congrArg (fun l => SV.pure (.list 1 false l)) (List.map_map ..).symm
theorem newScanner_ok (s : ByteArray) : CallOk Tryz.prog 114 [vS s] [] fun r st' => r = .ptr 0 0 ∧ st' = [scR s 0 (sgL sgs)] := by
  refine callOk_of false 1 Tryz.func114 rfl rfl (Nat.zero_le _) ?_
  conv => whnf
  repeat (first | (refine rest_vc ?_; conv => whnf) | (refine ⟨by decide, ?_⟩; conv => whnf))
  refine CallIn.to (classes_ok) (k := ?_)
  conv => whnf
  repeat (first | (refine rest_vc ?_; conv => whnf) | (refine ⟨by decide, ?_⟩; conv => whnf))
  refine CallIn.to signs_ok (k := ?_)
  conv => whnf
  refine rest_torow 0 (ps := scX s 0 (sgL sgs)) rfl (by kernel_rfl) ?_
  refine rest_vc ?_
  conv => whnf
  repeat (refine ⟨by decide, ?_⟩; conv => whnf)
  exact ⟨rfl, by kernel_rfl⟩
end Go.Proofs.YtafngalmkblipaaGreatDoor
/- law10: the program's words: the tokens of a source, and whether a text is a word. -/
set_option linter.all false
set_option maxHeartbeats 4000000
set_option maxRecDepth 100000
namespace Go.Proofs.YtafngalmkblipaaGreatDoor
open Go Go.RowKit Go.Sy Go.Proofs

/-- A text is one word. -/
def isWd (s : ByteArray) : Bool := isC s 0 [2] && (wdN s (bhdN s [2, 3] 0) == s.size) && decide (s.size ≤ 16)
/-- The token that a word that is no word's would be. -/
def Bad (s : ByteArray) (t : PV) : Prop := ∃ n a : Int, t = tkA 0 n a s
structure Jn (s : ByteArray) (l : List PV) (p : Nat) : Prop where
  le : p ≤ s.size
  len : l.length ≤ p
  nil : l = [] → p = 0
  wd : isWd s = true → l = [] ∨ (l = [tkW s] ∧ p = s.size)
  nw : isWd s = false → ∀ t, l.head? = some t → ¬ Bad s t
  tk : ∀ t ∈ l, ∃ k n a x, t = tkA k n a x

abbrev nilTk : SV := .pure (.list 4 true [])
abbrev cTok : Nat := 141
/-- The objects of the loop over the tokens. -/
abbrev obT (E : List SV) (ps : Array Tmp) (asg body : Code) (s : ByteArray) (l : List PV) (p : Nat) : List Ob :=
  [.loop E ps asg body .ready none, .cells 141 [.pure (.list 0 true [])], .cells 3 [vI .i64 0], .cells 47 [vI .i64 0], .cells 141 [.vref 5 l.length], .vec l.length 145 4 l.isEmpty l, scR s p (sgL sgs), .cells 166 [.ptr 6 0]]
abbrev obU (E : List SV) (ps : Array Tmp) (asg body : Code) (s : ByteArray) (l : List PV) (a : Int) (p : Nat) : List Ob :=
  [.loop E ps asg body .done (some .ret), .cells 141 [nilTk], .cells 3 [vI .i64 a], .cells 47 [vI .i64 2], .cells 141 [.vref 5 l.length], .vec l.length 145 4 l.isEmpty l, scR s p (sgL sgs), .cells 166 [.ptr 6 0]]

theorem id8 (j : Nat) (hj : j < 8) : [0, 1, 2, 3, 4, 5, 6, 7].getD j 0 = j := by
  have : j = 0 ∨ j = 1 ∨ j = 2 ∨ j = 3 ∨ j = 4 ∨ j = 5 ∨ j = 6 ∨ j = 7 := by omega
  rcases this with rfl | rfl | rfl | rfl | rfl | rfl | rfl | rfl <;> rfl
theorem back8 (n j : Nat) (hj : j < 8) : backN [0, 1, 2, 3, 4, 5, 6, 7] n j = j := by
  unfold backN
  rw [if_pos (by simpa using hj), id8 j hj]

theorem wd_at {s : ByteArray} (h : isWd s = true) : isC s 0 [2] = true ∧ wdN s (bhdN s [2, 3] 0) = s.size ∧ s.size ≤ 16 := by
  unfold isWd at h
  simp only [Bool.and_eq_true, beq_iff_eq, decide_eq_true_eq] at h
  exact ⟨h.1.1, h.1.2, h.2⟩
theorem cls_two {s : ByteArray} {p : Nat} (h : isC s p [2] = true) : p < s.size ∧ clsN (atB s.toList p) = 2 := by
  unfold isC at h
  simp only [Bool.and_eq_true, decide_eq_true_eq] at h
  refine ⟨h.1, ?_⟩
  have h2 := h.2
  unfold hasI at h2
  simp only [fstI, eqI] at h2
  by_cases e : ((clsN (atB s.toList p) : Nat) : Int) = 2
  · omega
  · exfalso
    simp [e] at h2
theorem no_blank {s : ByteArray} {p : Nat} (h : isWd s = true) (hp : p = 0 ∨ p = s.size) : isC s p [1] = false ∧ hasP (s.extract p s.size) sSl = false := by
  obtain ⟨h1, h2, h3⟩ := wd_at h
  obtain ⟨h4, h5⟩ := cls_two h1
  rcases hp with rfl | rfl
  · refine ⟨?_, ?_⟩
    · unfold isC
      rw [h5, decide_eq_true h4]
      rfl
    · cases hh : hasP (s.extract 0 s.size) sSl with
      | false => rfl
      | true =>
        have := (hasP_sl (Nat.zero_le _) hh).2
        rw [this] at h5
        exact absurd h5 (by decide)
  · refine ⟨isC_out (Nat.le_refl _), ?_⟩
    cases hh : hasP (s.extract s.size s.size) sSl with
    | false => rfl
    | true =>
      have := (hasP_sl (Nat.le_refl _) hh).1
      omega

theorem TokR.unf {s : ByteArray} {p : Nat} {sg : PV} {r : SV} {st' : List Ob} (h : TokR s p sg r st') (hp : p < s.size) :
    ∃ (k n a : Int) (x : ByteArray) (c : Bool) (q : Nat), r = .tup [.pure (tkA k n a x), vB c] ∧ st' = [scR s q sg] ∧ p ≤ q ∧ q ≤ s.size ∧ (c = true → p < q) ∧
      ((isC s p [2] = true ∧ k = 0 ∧ n = 0 ∧ x = s.extract p q ∧ q = wdN s (bhdN s [2, 3] p) ∧ c = decide (q - p ≤ 16)) ∨ (isC s p [2] = false ∧ (c = true → k ≠ 0))) := by
  unfold TokR at h
  split at h
  · rename_i h2
    obtain ⟨rfl, rfl⟩ := h
    have h23 : isC s p [2, 3] = true := by
      obtain ⟨h3, h4⟩ := cls_two h2
      unfold isC
      rw [h4, decide_eq_true h3]
      rfl
    have hb : bhdN s [2, 3] p = bhdN s [2, 3] (p + 1) := by rw [bhdN_at, if_pos h23]
    have hg := bhdN_ge s [2, 3] (s.size - (p + 1)) (p + 1) rfl
    have hw := wdN_ge s (s.size - bhdN s [2, 3] p) (bhdN s [2, 3] p) (Nat.le_refl _)
    rw [hb] at hw
    have hw2 := hw.2 (hg.2 (by omega))
    refine ⟨0, 0, 0, _, _, _, rfl, rfl, ?_, ?_, fun _ => ?_, .inl ⟨h2, rfl, rfl, rfl, rfl, rfl⟩⟩ <;> rw [hb] <;> omega
  · rename_i h2
    obtain ⟨k, n, a, x, c, p', rfl, rfl, h3, h4, h5⟩ := h
    exact ⟨k, n, a, x, c, p', rfl, rfl, h3, h4, fun e => (h5 e).2, .inr ⟨by simpa using h2, fun e => (h5 e).1⟩⟩

theorem iter_ok (E : List SV) (hE : SV.inL 8 E = true) (ps : Array Tmp) (asg body : Code) (s : ByteArray) (hs : (s.size : Int) ≤ 6000)
    (r1 : ∀ (l : List PV) (p : Nat) (t : PV), l.length ≤ 6000 → (∃ k n a x, t = tkA k n a x) → RoundOk Tryz.prog [.pure t, vB true] (obT E ps asg body s l p) fun r st' => r = vB true ∧ st' = obT E ps asg body s (l ++ [t]) p)
    (r2 : ∀ (l : List PV) (p : Nat) (k n a : Int) (x : ByteArray), RoundOk Tryz.prog [.pure (tkA k n a x), vB false] (obT E ps asg body s l p) fun r st' => r = vB false ∧ st' = obU E ps asg body s l a p) :
    CallOk Tryz.prog 153 [.yld 0, .ptr 7 0] (obT E ps asg body s [] 0) fun r st' => r = .tup [] ∧ ((∃ l p, l.length ≤ 6000 ∧ (∀ t ∈ l, ∃ k n a x, t = tkA k n a x) ∧ (isWd s = true → l = [tkW s]) ∧ (isWd s = false → ∀ t, l.head? = some t → ¬ Bad s t) ∧ st' = obT E ps asg body s l p) ∨ (isWd s = false ∧ ∃ l a p, st' = obU E ps asg body s l a p)) := by
  have hidE : SV.rnL (fun j => [0, 1, 2, 3, 4, 5, 6, 7].getD j 0) E = E := rnL_id (k := 8) id8 E hE
  have hbkE : ∀ n, SV.rnL (backN [0, 1, 2, 3, 4, 5, 6, 7] n) E = E := fun n => rnL_id (k := 8) (back8 n) E hE
  have hob : ∀ (l : List PV) (p : Nat), (obT E ps asg body s l p).all (Ob.inn 8) = true := fun l p => by
    simp only [obT, List.all_cons, List.all_nil, Ob.inn, Bool.and_true]
    rw [hE]
    rfl
  have hobU : ∀ (l : List PV) (a : Int) (p : Nat), (obU E ps asg body s l a p).all (Ob.inn 8) = true := fun l a p => by
    simp only [obU, List.all_cons, List.all_nil, Ob.inn, Bool.and_true]
    rw [hE]
    rfl
  have hrn : ∀ (l : List PV) (p : Nat), (obT E ps asg body s l p).map (Ob.rn fun j => [0, 1, 2, 3, 4, 5, 6, 7].getD j 0) = obT E ps asg body s l p := fun l p => by
    simp only [obT, List.map_cons, List.map_nil, Ob.rn, hidE]
    rfl
  have hbkT : ∀ (l : List PV) (p : Nat) (st : List Ob), 8 ≤ st.length → backSt [0, 1, 2, 3, 4, 5, 6, 7] st (obT E ps asg body s l p) = obT E ps asg body s l p ++ st.drop 8 := fun l p st hst => by
    match st, hst with
    | _ :: _ :: _ :: _ :: _ :: _ :: _ :: _ :: _, _ =>
      simp only [obT, backSt, putAll, List.set, Ob.rn, hbkE]
      show _ ++ ([] : List Ob) = _
      rw [List.append_nil]
      rfl
  have hbkU : ∀ (l : List PV) (a : Int) (p : Nat) (st : List Ob), 8 ≤ st.length → backSt [0, 1, 2, 3, 4, 5, 6, 7] st (obU E ps asg body s l a p) = obU E ps asg body s l a p ++ st.drop 8 := fun l a p st hst => by
    match st, hst with
    | _ :: _ :: _ :: _ :: _ :: _ :: _ :: _ :: _, _ =>
      simp only [obU, backSt, putAll, List.set, Ob.rn, hbkE]
      show _ ++ ([] : List Ob) = _
      rw [List.append_nil]
      rfl
  have hob8 : ∀ L : List Ob, L.all (Ob.inn 8) = true → (decide (8 ≤ 8) && SV.inL 8 [] && L.all (Ob.inn 8)) = true := fun L h => by rw [h]; rfl
  refine callOk_of false 8 Tryz.func153 rfl rfl (Nat.le_refl _) ?_
  conv => whnf
  repeat (first | (refine rest_vc ?_; conv => whnf) | (refine ⟨by decide, ?_⟩; conv => whnf))
  refine awp_loop (n := 46) (α := List PV × Nat) (fun x => Jn s x.1 x.2) (fun x => [(0, .yld 0), (1, .ptr 7 0)]) (fun x => obT E ps asg body s x.1 x.2) (fun x => s.size - x.2) ([], 0) (fun _ => 0)
    ⟨Nat.zero_le _, Nat.le_refl _, fun _ => rfl, fun _ => .inl rfl, fun _ t h => (by cases h), fun t h => (by cases h)⟩ rfl ⟨rfl, rfl, trivial⟩ ?_ (fun _ _ => rfl) (fun i => ⟨Nat.le_refl _, rfl, ?_⟩) ?_
  · simp [obT, upSt, Ob.up, upL_zero, SV.upL, SV.up]
  · exact hob _ _
  rintro ⟨l, p⟩ hJ
  have hp := hJ.le
  have hlen := hJ.len
  have hwd := hJ.wd
  simp only at hp hlen hwd
  have hnb : isWd s = true → isC s p [1] = false ∧ hasP (s.extract p s.size) sSl = false := fun h => no_blank h (by
    rcases hwd h with e | ⟨_, e⟩
    · exact .inl (hJ.nil e)
    · exact .inr e)
  conv => whnf
  repeat (first | (refine rest_vc ?_; conv => whnf) | (refine ⟨by decide, ?_⟩; conv => whnf))
  refine CallIn.o [6] (blanks_ok s p (sgL sgs) (by omega) hp) (k := ?_)
  rintro r st' ⟨c, p', rfl, rfl, h1, h2, h3⟩
  conv => whnf
  repeat (first | (refine rest_vc ?_; conv => whnf) | (refine ⟨by decide, ?_⟩; conv => whnf))
  have ld1 : ∀ q, (scX s p' (sgL sgs))[0 + 1]? = some q → PV.val (.int .i64 (p' : Int)) = q := fun q hq => Option.some.inj hq
  have ld0 : ∀ q, (scX s p' (sgL sgs))[0 + 0]? = some q → PV.val (.string s) = q := fun q hq => Option.some.inj hq
  cases c with
  | false =>
    have hw : isWd s = false := by
      cases hh : isWd s with
      | false => rfl
      | true => have := h3 (hnb hh).1 (hnb hh).2; exact absurd this.1 (by decide)
    conv => whnf
    repeat (first | (refine rest_vc ?_; conv => whnf) | (refine ⟨by decide, ?_⟩; conv => whnf))
    intro q hq
    obtain rfl := ld1 q hq
    conv => whnf
    repeat (first | (refine rest_vc ?_; conv => whnf) | (refine ⟨by decide, ?_⟩; conv => whnf))
    refine YieldIn.mk [0, 1, 2, 3, 4, 5, 6, 7] [.pure (tkA 0 0 p' noS), vB false] (obT E ps asg body s l p') _ (by decide) (fun i hi => by simp at hi; show i < 8; omega) rfl rfl rfl (hrn l p').symm (hob l p') (r2 l p' 0 0 p' noS) ?_
    rintro r st' ⟨rfl, rfl⟩
    rw [hbkU _ _ _ _ (Nat.le_refl _)]
    conv => whnf
    repeat (first | (refine rest_vc ?_; conv => whnf) | (refine ⟨by decide, ?_⟩; conv => whnf))
    exact must_iff.2 ⟨hob8 _ (hobU l p' p'), rfl, .inr ⟨hw, l, p', p', rfl⟩⟩
  | true =>
    conv => whnf
    repeat (first | (refine rest_vc ?_; conv => whnf) | (refine ⟨by decide, ?_⟩; conv => whnf))
    refine hand_draw [] (fun _ _ => True) rfl (by kernel_rfl) rfl ?_
    conv => whnf
    repeat (first | (refine rest_vc ?_; conv => whnf) | (refine ⟨by decide, ?_⟩; conv => whnf))
    intro q hq
    obtain rfl := ld1 q hq
    conv => whnf
    repeat (first | (refine rest_vc ?_; conv => whnf) | (refine ⟨by decide, ?_⟩; conv => whnf))
    intro q hq
    obtain rfl := ld0 q hq
    conv => whnf
    repeat (first | (refine rest_vc ?_; conv => whnf) | (refine ⟨by decide, ?_⟩; conv => whnf))
    split <;> rename_i h4 <;> (conv => whnf) <;> repeat (first | (refine rest_vc ?_; conv => whnf) | (refine ⟨by decide, ?_⟩; conv => whnf))
    · have h4' : p' = s.size := by have h4 : (p' : Int) = (s.size : Int) := beq_iff_eq.1 h4; omega
      refine must_iff.2 ⟨hob8 _ (hob l p'), rfl, .inl ⟨l, p', by omega, hJ.tk, fun h => ?_, hJ.nw, rfl⟩⟩
      rcases hwd h with e | ⟨e, _⟩
      · have e1 := hJ.nil e
        have e2 := (h3 (hnb h).1 (hnb h).2).2
        have e3 := (cls_two (wd_at h).1).1
        simp only at e1
        omega
      · exact e
    · intro q hq
      obtain rfl := ld1 q hq
      conv => whnf
      repeat (first | (refine rest_vc ?_; conv => whnf) | (refine ⟨by decide, ?_⟩; conv => whnf))
      have hne : p' < s.size := by have h4 : ¬ ((p' : Int) = (s.size : Int)) := beq_eq_false_iff_ne.1 h4; omega
      refine CallIn.o [6] (token_ok num103 s p' sgs sgs_len sgs_ok (by omega) hne) (k := ?_)
      rintro r st' htk
      conv => whnf
      repeat (first | (refine rest_vc ?_; conv => whnf) | (refine ⟨by decide, ?_⟩; conv => whnf))
      obtain ⟨k, n, a, x, c, q, rfl, rfl, g1, g2, g3, g4⟩ := htk.unf hne
      conv => whnf
      repeat (first | (refine rest_vc ?_; conv => whnf) | (refine ⟨by decide, ?_⟩; conv => whnf))
      cases c with
      | true =>
        refine YieldIn.mk [0, 1, 2, 3, 4, 5, 6, 7] [.pure (tkA k n p' x), vB true] (obT E ps asg body s l q) _ (by decide) (fun i hi => by simp at hi; show i < 9; omega) rfl rfl rfl (hrn l q).symm (hob l q) (r1 l q (tkA k n p' x) (by omega) ⟨_, _, _, _, rfl⟩) ?_
        rintro r st' ⟨rfl, rfl⟩
        rw [hbkT _ _ _ (Nat.le_succ _)]
        conv => whnf
        repeat (first | (refine rest_vc ?_; conv => whnf) | (refine ⟨by decide, ?_⟩; conv => whnf))
        have hlt := g3 rfl
        have hwe : isWd s = true → l = [] ∧ tkA k n p' x = tkW s ∧ q = s.size := fun h => by
          have e2 := (h3 (hnb h).1 (hnb h).2).2
          obtain ⟨w1, w2, w3⟩ := wd_at h
          rcases hwd h with e | ⟨e, e'⟩
          · have e1 : p = 0 := hJ.nil e
            subst e1
            subst e2
            rcases g4 with ⟨_, rfl, rfl, rfl, rfl, _⟩ | ⟨f1, _⟩
            · refine ⟨e, ?_, w2⟩
              rw [w2]
              unfold tkA tkW
              rw [ByteArray.extract_zero_size]
              rfl
            · rw [w1] at f1; cases f1
          · omega
        refine ⟨(l ++ [tkA k n p' x], q), fun _ => 0, ⟨g2, by simp; omega, fun e => (by simp at e), fun h => ?_, fun h t ht => ?_, fun t ht => ?_⟩, (by show s.size - q < s.size - p; omega), rfl, ⟨rfl, rfl, trivial⟩, ?_, fun _ _ => rfl⟩
        · obtain ⟨e1, e2, e3⟩ := hwe h
          exact .inr ⟨by rw [e1, e2]; rfl, e3⟩
        · cases l with
          | cons t' l' => exact hJ.nw h t (by simpa using ht)
          | nil =>
            obtain rfl : tkA k n p' x = t := by simpa using ht
            rintro ⟨n', a', e⟩
            unfold tkA at e
            simp only [PV.agg.injEq, List.cons.injEq, PV.val.injEq, Value.int.injEq, Value.string.injEq, true_and, and_true] at e
            obtain ⟨rfl, rfl, rfl, rfl⟩ := e
            rcases g4 with ⟨f1, _, _, f2, f3, f4⟩ | ⟨_, f1⟩
            · have f5 : q - p' = x.size := by have := congrArg ByteArray.size f2; rw [ByteArray.size_extract] at this; omega
              have f6 : p' = 0 := by omega
              subst f6
              have : isWd x = true := by
                unfold isWd
                rw [f1, ← f3, show q = x.size by omega]
                have f4 := of_decide_eq_true f4.symm
                simp
                omega
              rw [this] at h
              cases h
            · exact f1 rfl rfl
        · rcases List.mem_append.1 ht with ht | ht
          · exact hJ.tk t ht
          · rw [List.mem_singleton] at ht
            exact ⟨_, _, _, _, ht⟩
        · simp [obT, upSt, Ob.up, upL_zero, SV.upL, SV.up]
      | false =>
        refine YieldIn.mk [0, 1, 2, 3, 4, 5, 6, 7] [.pure (tkA k n p' x), vB false] (obT E ps asg body s l q) _ (by decide) (fun i hi => by simp at hi; show i < 9; omega) rfl rfl rfl (hrn l q).symm (hob l q) (r2 l q k n p' x) ?_
        rintro r st' ⟨rfl, rfl⟩
        rw [hbkU _ _ _ _ (Nat.le_succ _)]
        conv => whnf
        repeat (first | (refine rest_vc ?_; conv => whnf) | (refine ⟨by decide, ?_⟩; conv => whnf))
        refine must_iff.2 ⟨hob8 _ (hobU l p' q), rfl, .inr ⟨?_, l, p', q, rfl⟩⟩
        cases h : isWd s with
        | false => rfl
        | true =>
          exfalso
          have e2 := (h3 (hnb h).1 (hnb h).2).2
          obtain ⟨w1, w2, w3⟩ := wd_at h
          rcases hwd h with e | ⟨e, e'⟩
          · have e1 : p = 0 := hJ.nil e
            subst e1
            subst e2
            rcases g4 with ⟨_, _, _, _, f3, f4⟩ | ⟨f1, _⟩
            · have f4 := of_decide_eq_false f4.symm
              omega
            · rw [w1] at f1; cases f1
          · omega
end Go.Proofs.YtafngalmkblipaaGreatDoor
/- law10: whether a text is a word: the scanner's way and the reference's are one. -/
set_option linter.all false
set_option maxHeartbeats 4000000
set_option maxRecDepth 100000
namespace Go.Proofs.YtafngalmkblipaaGreatDoor
open Go Go.RowKit Go.Sy Go.Proofs

theorem has2_all : ((List.range 256).all fun c => hasI [2] (clsN c : Nat) == isLet c) = true := by kernel_rfl
theorem has23_all : ((List.range 256).all fun c => hasI [2, 3] (clsN c : Nat) == isPrt c) = true := by kernel_rfl
theorem has2 {c : Nat} (h : c < 256) : hasI [2] (clsN c : Nat) = isLet c := by
  have := List.all_eq_true.1 has2_all c (List.mem_range.2 h)
  simpa using this
theorem has23 {c : Nat} (h : c < 256) : hasI [2, 3] (clsN c : Nat) = isPrt c := by
  have := List.all_eq_true.1 has23_all c (List.mem_range.2 h)
  simpa using this
theorem isC2 (s : ByteArray) (i : Nat) : isC s i [2] = isLet (atB s.toList i) := by
  unfold isC
  rw [has2 (atB_lt _ _)]
  by_cases h : i < s.size
  · rw [decide_eq_true h]; rfl
  · rw [decide_eq_false h, atB_out (by omega)]; rfl
theorem isC23 (s : ByteArray) (i : Nat) : isC s i [2, 3] = isPrt (atB s.toList i) := by
  unfold isC
  rw [has23 (atB_lt _ _)]
  by_cases h : i < s.size
  · rw [decide_eq_true h]; rfl
  · rw [decide_eq_false h, atB_out (by omega)]; rfl
theorem wEnd_eq (s : ByteArray) : ∀ (f i : Nat), s.size ≤ i + f → i ≤ s.size → wEnd s.toList f i = wdN s (bhdN s [2, 3] i)
  | 0, i, h, hi => by
    rw [wEnd, bhdN_at, isC_out (by omega), if_neg (by decide), wdN_at, decide_eq_false (by omega)]
    rfl
  | f + 1, i, h, hi => by
    rw [wEnd]
    by_cases h1 : isPrt (atB s.toList i) = true
    · have hlt : i < s.size := by
        by_cases hh : i < s.size
        · exact hh
        · rw [atB_out (by omega)] at h1; cases h1
      rw [if_pos h1, bhdN_at, isC23, if_pos h1]
      exact wEnd_eq s f (i + 1) (by omega) (by omega)
    · rw [if_neg h1]
      have e : bhdN s [2, 3] i = i := by rw [bhdN_at, isC23, if_neg h1]
      rw [e, wdN_at, isC23]
      by_cases h2 : (atB s.toList i == 46 && isPrt (atB s.toList (i + 1))) = true
      · rw [if_pos h2]
        simp only [Bool.and_eq_true] at h2
        have hlt : i + 1 < s.size := by
          by_cases hh : i + 1 < s.size
          · exact hh
          · rw [atB_out (i := i + 1) (by omega)] at h2; exact absurd h2.2 (by decide)
        rw [decide_eq_true (by omega), h2.1, h2.2, if_pos (by rfl), bhdN_at, isC23, if_pos h2.2]
        by_cases h3 : i + 2 ≤ s.size
        · exact wEnd_eq s f (i + 2) (by omega) h3
        · omega
      · rw [if_neg h2, if_neg (fun hh => h2 (by simp only [Bool.and_eq_true] at hh ⊢; exact ⟨hh.1.2, hh.2⟩))]
theorem isWd_eq (s : ByteArray) : isWd s = isWordB s := by
  have hsz := size_toList s
  unfold isWd isWordB
  rw [isC2, hsz]
  by_cases h : isLet (atB s.toList 0) = true
  · have hpos : 0 < s.size := by
      by_cases hh : 0 < s.size
      · exact hh
      · rw [atB_out (by omega)] at h; cases h
    have hne : s.toList.isEmpty = false := by
      cases hc : s.toList with
      | nil => rw [hc] at hsz; simp at hsz; omega
      | cons _ _ => rfl
    have hp : isPrt (atB s.toList 0) = true := by unfold isPrt; rw [h]; rfl
    have e0 : bhdN s [2, 3] 0 = bhdN s [2, 3] 1 := by rw [bhdN_at, isC23, if_pos hp]
    rw [h, hne, e0, wEnd_eq s s.size 1 (by omega) (by omega)]
    rfl
  · have h : isLet (atB s.toList 0) = false := by simpa using h
    rw [h, Bool.and_false]
    rfl

/-- What the taking of all tokens gives. -/
def LexR (s : ByteArray) (r : SV) : Prop := ∃ (nl : Bool) (l : List PV) (n e : Int), r = .tup [.pure (.list 4 nl l), vI .i64 n, vI .i64 e] ∧ (isWd s = true → e = 0 ∧ l = [tkW s]) ∧
  (isWd s = false → e ≠ 0 ∨ ∀ t, l.head? = some t → ¬ Bad s t) ∧ (e = 0 → (∀ t ∈ l, ∃ k n a x, t = tkA k n a x) ∧ l.length ≤ 6000)
theorem tokens_ok (T : TypeId) (xs : List PV) : CallOk Tryz.prog 115 [.ptr 0 0] [.row T 259 xs] fun r st' => r = .clo 153 [.ptr 1 0] ∧ st' = [.row T 259 xs, .cells 166 [.ptr 0 0]] := by
  refine callOk_of false 2 Tryz.func115 rfl rfl (by show 1 ≤ 2; decide) ?_
  conv => whnf
  repeat (first | (refine rest_vc ?_; conv => whnf) | (refine ⟨by decide, ?_⟩; conv => whnf))
  exact ⟨rfl, rfl⟩
theorem Lex_ok (s : ByteArray) (hs : (s.size : Int) ≤ 2000000) : CallOk Tryz.prog 90 [vS s] [] fun r st' => st' = [] ∧ LexR s r := by
  refine callOk_of true 0 Tryz.func90 rfl rfl (Nat.le_refl _) ?_
  conv => whnf
  repeat (first | (refine rest_vc ?_; conv => whnf) | (refine ⟨by decide, ?_⟩; conv => whnf))
  split <;> rename_i h1 <;> (conv => whnf) <;> repeat (first | (refine rest_vc ?_; conv => whnf) | (refine ⟨by decide, ?_⟩; conv => whnf))
  · have h1 := of_decide_eq_true h1
    refine ⟨rfl, _, _, _, _, rfl, fun h => ?_, fun _ => .inl (by decide), fun e => (by cases e)⟩
    have := (wd_at h).2.2
    omega
  · have h1 := of_decide_eq_false h1
    refine CallIn.o [] (newScanner_ok s) (k := ?_)
    rintro r st' ⟨rfl, rfl⟩
    conv => whnf
    repeat (first | (refine rest_vc ?_; conv => whnf) | (refine ⟨by decide, ?_⟩; conv => whnf))
    refine CallIn.o [4] (tokens_ok _ _) (k := ?_)
    rintro r st' ⟨rfl, rfl⟩
    conv => whnf
    repeat (first | (refine rest_vc ?_; conv => whnf) | (refine ⟨by decide, ?_⟩; conv => whnf))
    refine hand_ghostc 3 145 4 rfl ?_
    refine hand_range [7, 0, 1, 2, 3, 6, 4, 5] (iter_ok [vS s, .dead, .ptr 1 0, .ptr 2 0, .ptr 3 0, .ptr 4 0, .dead, .dead, vS s, vI .i64 s.size, vB false, vS s, .ptr 6 0, .clo 153 [.ptr 7 0], .dead, .dead, .dead, .dead, .dead, .dead, .dead, .dead, .dead, .dead, .dead, .dead, .dead, .dead, .dead, .dead] rfl _ _ _ s (by omega) ?_ ?_)
      ⟨_, Tryz.func153, rfl, by kernel_rfl⟩ rfl rfl rfl rfl rfl rfl rfl rfl ?_
    · rintro l p t hl ⟨k, n, a, x, rfl⟩
      refine roundOk_of rfl ?_
      conv => whnf
      repeat (first | (refine rest_vc ?_; conv => whnf) | (refine ⟨by decide, ?_⟩; conv => whnf))
      refine must_nn rfl ⟨by simp only [List.length_cons, List.length_nil]; show _ * 40 ≤ _; omega, ?_⟩
      conv => whnf
      repeat (first | (refine rest_vc ?_; conv => whnf) | (refine ⟨by decide, ?_⟩; conv => whnf))
      refine ⟨rfl, ?_⟩
      have e1 : (l ++ [tkA k n a x]).length = l.length + 1 := by simp
      have e2 : (l ++ [tkA k n a x]).isEmpty = (l.isEmpty && false) := by cases l <;> rfl
      unfold obT
      rw [e1, e2]
      rfl
    · intro l p k n a x
      refine roundOk_of rfl ?_
      conv => whnf
      repeat (first | (refine rest_vc ?_; conv => whnf) | (refine ⟨by decide, ?_⟩; conv => whnf))
      refine hand_frc 8 rfl rfl ?_
      refine hand_drawO [0, 1, 2, 3, 4] { lds := [1] } [2, 3, 4] (fun _ _ => True) rfl rfl (by kernel_rfl) (by kernel_rfl) rfl ?_
      conv => whnf
      repeat (first | (refine rest_vc ?_; conv => whnf) | (refine ⟨by decide, ?_⟩; conv => whnf))
      exact ⟨rfl, rfl⟩
    · rintro r st' ⟨rfl, hst⟩
      rcases hst with ⟨l, p, h2, h3, h4, h5, rfl⟩ | ⟨h2, l, a, p, rfl⟩
      · refine ⟨by decide, ?_⟩
        conv => whnf
        repeat (refine ⟨by decide, ?_⟩; conv => whnf)
        refine rest_norm 30 (fun o => if o = 6 then l.length else 0) [(2, .ptr 0 0), (3, .ptr 1 0), (4, .ptr 2 0), (5, .ptr 3 0)]
          [.cells 141 [.pure (.list 0 true [])], .cells 3 [vI .i64 0], .cells 47 [vI .i64 0], .cells 141 [.vref 6 0], scR s p (sgL sgs), .cells 166 [.ptr 4 0], .vec 0 145 4 l.isEmpty l] rfl ⟨rfl, rfl, rfl, rfl, trivial⟩ ?_ ⟨by show 0 ≤ 7; omega, rfl, rfl⟩ (fun o ho => absurd ho (Nat.not_lt_zero _)) ?_
        · simp [upSt, Ob.up, SV.upL, SV.up]
          rfl
        refine rest_vc ?_
        conv => whnf
        repeat (first | (refine rest_vc ?_; conv => whnf) | (refine ⟨by decide, ?_⟩; conv => whnf))
        intro _
        conv => whnf
        repeat (first | (refine rest_vc ?_; conv => whnf) | (refine ⟨by decide, ?_⟩; conv => whnf))
        split <;> rename_i h6 <;> (conv => whnf) <;> repeat (first | (refine rest_vc ?_; conv => whnf) | (refine ⟨by decide, ?_⟩; conv => whnf))
        · have h6 := of_decide_eq_true h6
          refine ⟨rfl, true, [], 0, 3, rfl, fun h => ?_, fun _ => .inl (by decide), fun e => (by cases e)⟩
          rw [h4 h] at h6
          have h6 : ((1 : Nat) : Int) > 2000 := h6
          omega
        · refine hand_frza 6 rfl ?_
          refine hand_frc 3 rfl rfl ?_
          refine hand_drawO [0, 1, 2, 3, 4, 5] { lds := [0, 1, 2] } [3, 4, 5] (fun _ _ => True) rfl rfl (by kernel_rfl) (by kernel_rfl) rfl ?_
          conv => whnf
          repeat (first | (refine rest_vc ?_; conv => whnf) | (refine ⟨by decide, ?_⟩; conv => whnf))
          refine must_iff.2 ⟨decide_eq_true (by omega), ?_⟩
          conv => whnf
          repeat (first | (refine rest_vc ?_; conv => whnf) | (refine ⟨by decide, ?_⟩; conv => whnf))
          intro _
          conv => whnf
          repeat (first | (refine rest_vc ?_; conv => whnf) | (refine ⟨by decide, ?_⟩; conv => whnf))
          exact ⟨rfl, l.isEmpty, l, l.length, 0, rfl, fun h => ⟨rfl, h4 h⟩, fun h => .inr (h5 h), fun _ => ⟨h3, h2⟩⟩
      · refine ⟨by decide, ?_⟩
        conv => whnf
        repeat (first | (refine rest_vc ?_; conv => whnf) | (refine ⟨by decide, ?_⟩; conv => whnf))
        exact ⟨rfl, true, [], a, 2, rfl, fun h => (by rw [h2] at h; cases h), fun _ => .inl (by decide), fun e => (by cases e)⟩

theorem isW39 : IsW 66 := by
  intro s hs
  rw [← isWd_eq]
  refine callOk_of true 0 Tryz.func66 rfl rfl (Nat.le_refl _) ?_
  conv => whnf
  repeat (first | (refine rest_vc ?_; conv => whnf) | (refine ⟨by decide, ?_⟩; conv => whnf))
  refine CallIn.top (Lex_ok s hs) (k := ?_)
  rintro r ⟨nl, l, n, e, rfl, h1, h2, h3⟩
  conv => whnf
  repeat (first | (refine rest_vc ?_; conv => whnf) | (refine ⟨by decide, ?_⟩; conv => whnf))
  split <;> rename_i h4 <;> (conv => whnf) <;> repeat (first | (refine rest_vc ?_; conv => whnf) | (refine ⟨by decide, ?_⟩; conv => whnf))
  · obtain rfl : e = 0 := beq_iff_eq.1 h4
    obtain ⟨h5, h6⟩ := h3 rfl
    intro _
    conv => whnf
    repeat (first | (refine rest_vc ?_; conv => whnf) | (refine ⟨by decide, ?_⟩; conv => whnf))
    split <;> rename_i h7 <;> (conv => whnf) <;> repeat (first | (refine rest_vc ?_; conv => whnf) | (refine ⟨by decide, ?_⟩; conv => whnf))
    · have h7 : l.length = 1 := by have h7 : ((l.length : Nat) : Int) = 1 := beq_iff_eq.1 h7; omega
      match l, h7 with
      | [t], _ =>
        obtain ⟨k, n', a, x, rfl⟩ := h5 t (by simp)
        have key : isWd s = (decide (k = 0) && eqBA x s) := by
          cases hh : isWd s with
          | true =>
            have e := (h1 hh).2
            unfold tkA tkW at e
            simp only [PV.agg.injEq, List.cons.injEq, PV.val.injEq, Value.int.injEq, Value.string.injEq, true_and, and_true] at e
            obtain ⟨rfl, rfl, rfl, rfl⟩ := e
            rw [decide_eq_true rfl, eqBA_iff.2 rfl]
            rfl
          | false =>
            have e := (h2 hh).resolve_left (fun e => e rfl) _ rfl
            by_cases hk : k = 0
            · subst hk
              rw [decide_eq_true rfl]
              cases hx : eqBA x s with
              | false => rfl
              | true =>
                have := eqBA_iff.1 hx
                subst this
                exact absurd ⟨n', a, rfl⟩ e
            · rw [decide_eq_false hk]
              rfl
        refine ⟨⟨Int.le_refl _, Int.zero_lt_one⟩, fun q hq => ?_⟩
        obtain rfl : tkA k n' a x = q := Option.some.inj hq
        conv => whnf
        repeat (first | (refine rest_vc ?_; conv => whnf) | (refine ⟨by decide, ?_⟩; conv => whnf))
        split <;> rename_i h8 <;> (conv => whnf) <;> repeat (first | (refine rest_vc ?_; conv => whnf) | (refine ⟨by decide, ?_⟩; conv => whnf))
        · obtain rfl : k = 0 := beq_iff_eq.1 h8
          rw [decide_eq_true rfl, Bool.true_and] at key
          refine ⟨⟨Int.le_refl _, Int.zero_lt_one⟩, fun q hq => ?_⟩
          obtain rfl : tkA 0 n' a x = q := Option.some.inj hq
          conv => whnf
          repeat (first | (refine rest_vc ?_; conv => whnf) | (refine ⟨by decide, ?_⟩; conv => whnf))
          split <;> rename_i h9 <;> (conv => whnf) <;> repeat (first | (refine rest_vc ?_; conv => whnf) | (refine ⟨by decide, ?_⟩; conv => whnf))
          · exact ⟨rfl, congrArg vB (by rw [key]; exact (show eqBA x s = true from h9).symm)⟩
          · exact ⟨rfl, congrArg vB (by rw [key]; exact (show eqBA x s = false from h9).symm)⟩
        · have h8 : k ≠ 0 := beq_eq_false_iff_ne.1 h8
          rw [decide_eq_false h8, Bool.false_and] at key
          exact ⟨rfl, congrArg vB (by rw [key])⟩
    · have h7 : l.length ≠ 1 := by have h7 : ¬ ((l.length : Nat) : Int) = 1 := beq_eq_false_iff_ne.1 h7; omega
      have hw : isWd s = false := by
        cases hh : isWd s with
        | false => rfl
        | true => exact absurd (by rw [(h1 hh).2]; rfl) h7
      rw [hw]
      exact ⟨rfl, rfl⟩
  · have h4 : e ≠ 0 := beq_eq_false_iff_ne.1 h4
    have hw : isWd s = false := by
      cases hh : isWd s with
      | false => rfl
      | true => exact absurd (h1 hh).1 h4
    rw [hw]
    exact ⟨rfl, rfl⟩
end Go.Proofs.YtafngalmkblipaaGreatDoor
