/- NamesPlays: what each act of a script does with a book, and what it has behind them: for every script where what is read is of bulk at most 1048576 the law gives true. Conditions: that bound, which the statement itself bears, and the listed variables of the library's, which the card ties. -/
import Derived.Test.YtafngalmkblipaaGreatDoorQ7
import Derived.Test.YtafngalmkblipaaGreatDoorCards
import Derived.Test.YtafngalmkblipaaGreatDoorTie
import Derived.Deep.DeepHandedRow
import Derived.Lib.LaidU8
import Derived.Stop.LaidErr
import Derived.Deep.DeepWitnessRowRef
import Derived.SevenTiedAt
/- law10, the plain law: the reference's rules and protocols that are off stay in order; all is small. -/
set_option linter.all false
set_option maxHeartbeats 4000000
set_option maxRecDepth 100000
namespace Go.Proofs.YtafngalmkblipaaGreatDoor
open Go Go.RowKit Go.Sy Go.Proofs

theorem word_size {s : ByteArray} (h : isWordB s = true) : s.size ≤ 16 := by
  unfold isWordB at h
  simp only [Bool.and_eq_true, decide_eq_true_eq] at h
  have := h.2
  rw [ByteArray.toList_eq, Array.length_toList] at this
  exact this
theorem num64 {k : Int} (h : isNumB k = true) : in64 k := by
  unfold isNumB at h
  simp only [Bool.and_eq_true, decide_eq_true_eq] at h
  exact ⟨by omega, by omega⟩
theorem row_small {x : Rw} (h : isRowB x = true) : RwOk x := by
  unfold isRowB at h
  simp only [Bool.and_eq_true] at h
  exact ⟨Nat.le_trans (word_size h.1.1) (by decide), Nat.le_trans (word_size h.1.2) (by decide), num64 h.2⟩

structure Us (r : Rst) : Prop where
  rulS : r.rules.Pairwise fun x y => ltR x y = true
  offS : r.off.Pairwise fun a b => leBA a b = true
  rowO : ∀ x ∈ r.rows, RwOk x
  rulO : ∀ x ∈ r.rules, RwOk x
  prfO : ∀ x ∈ r.prefs, PfOk x
  offO : ∀ x ∈ r.off, x.size ≤ 10000
  namO : ∀ n ∈ r.names, n.x.size ≤ 10000
theorem us_new : Us newR := ⟨.nil, .nil, fun _ h => (by cases h), fun _ h => (by cases h), fun _ h => (by cases h), fun _ h => (by cases h), fun _ h => (by cases h)⟩

theorem preN_take {α : Type} {f : α → Bool} : ∀ {l : List α}, ∀ q ∈ l.take (preN f l), f q = true
  | [], q, h => by simp at h
  | x :: l, q, h => by
    unfold preN at h
    split at h
    · rename_i hx
      rw [List.take_succ_cons] at h
      rcases List.mem_cons.1 h with rfl | h
      · exact hx
      · exact preN_take q h
    · simp at h
theorem preN_drop {α : Type} {f : α → Bool} : ∀ {l : List α} {y : α} {m : List α}, l.drop (preN f l) = y :: m → f y = false
  | [], y, m, h => by simp at h
  | x :: l, y, m, h => by
    unfold preN at h
    split at h
    · rw [List.drop_succ_cons] at h
      exact preN_drop h
    · rename_i hx
      rw [List.drop_zero] at h
      cases h
      simpa using hx
theorem insR_sorted {x : Rw} {l : List Rw} (hs : l.Pairwise fun x y => ltR x y = true) (hk : ∀ q ∈ l, ¬ (q.t = x.t ∧ q.k = x.k)) :
    (l.take (preN (lsR x) l) ++ [x] ++ l.drop (preN (lsR x) l)).Pairwise fun x y => ltR x y = true := by
  have h1 : ∀ q ∈ l.take (preN (lsR x) l), ltR q x = true := fun q hq => preN_take q hq
  have h2 : ∀ q ∈ l.drop (preN (lsR x) l), ltR x q = true := by
    have hd : (l.drop (preN (lsR x) l)).Pairwise fun x y => ltR x y = true := hs.sublist (List.drop_sublist _ _)
    cases hc : l.drop (preN (lsR x) l) with
    | nil => intro q hq; cases hq
    | cons y m =>
      have hy : ltR y x = false := preN_drop (f := lsR x) hc
      have hym : y ∈ l := List.mem_of_mem_drop (by rw [hc]; simp)
      have hxy : ltR x y = true := by
        rcases ltR_cases x y with h | h | h
        · exact h
        · rw [h] at hy; cases hy
        · exact absurd ⟨h.1.symm, h.2.symm⟩ (hk y hym)
      rw [hc] at hd
      intro q hq
      rcases List.mem_cons.1 hq with rfl | hq
      · exact hxy
      · exact ltR_trans hxy ((List.pairwise_cons.1 hd).1 q hq)
  have h3 : ∀ a ∈ l.take (preN (lsR x) l), ∀ c ∈ l.drop (preN (lsR x) l), ltR a c = true := fun a ha c hc => ltR_trans (h1 a ha) (h2 c hc)
  rw [List.append_assoc, List.pairwise_append]
  refine ⟨hs.sublist (List.take_sublist _ _), ?_, fun a ha c hc => ?_⟩
  · exact List.pairwise_cons.2 ⟨h2, hs.sublist (List.drop_sublist _ _)⟩
  · rcases List.mem_cons.1 hc with rfl | hc
    · exact h1 a ha
    · exact h3 a ha c hc

theorem rules_nodup {l : List Rw} (h : l.Pairwise fun x y => ltR x y = true) : (l.map keyR).Nodup := by
  refine List.pairwise_map.2 (h.imp fun {a b} hab e => ?_)
  have h1 : a.t = b.t := congrArg Prod.fst e
  have h2 : a.k = b.k := congrArg Prod.snd e
  rw [ltR_of_key h1 h2, ltR_irrefl] at hab
  cases hab
theorem us_row {r : Rst} (h : Us r) (x : Rw) : Us (rrowB r x).2 := by
  unfold rrowB
  split
  · exact h
  · rename_i h1
    split
    · exact h
    · split
      · exact h
      · refine ⟨h.rulS, h.offS, fun q hq => ?_, h.rulO, h.prfO, h.offO, h.namO⟩
        rcases List.mem_append.1 hq with hq | hq
        · exact h.rowO q hq
        · rw [List.mem_singleton.1 hq]
          exact row_small (by simpa using h1)
theorem us_rule {r : Rst} (h : Us r) (x : Rw) : Us (rruleB r x).2 := by
  unfold rruleB
  split
  · exact h
  · rename_i h1
    split
    · exact h
    · have e := rOut_eq (rules_nodup h.rulS) x
      rw [e]
      have hsub : (r.rules.filter fun q => !isRw x.t x.k q).Pairwise fun x y => ltR x y = true := h.rulS.sublist List.filter_sublist
      refine ⟨insR_sorted hsub fun q hq hqx => ?_, h.offS, h.rowO, fun q hq => ?_, h.prfO, h.offO, h.namO⟩
      · have := (List.mem_filter.1 hq).2
        simp only [Bool.not_eq_true'] at this
        have h3 : isRw x.t x.k q = true := isRw_iff.2 (by unfold keyR; rw [hqx.1, hqx.2])
        rw [h3] at this
        cases this
      · simp only [List.mem_append, List.mem_singleton] at hq
        rcases hq with (hq | rfl) | hq
        · exact h.rulO q (List.mem_filter.1 (List.mem_of_mem_take hq)).1
        · exact row_small (by simpa using h1)
        · exact h.rulO q (List.mem_filter.1 (List.mem_of_mem_drop hq)).1
theorem us_unrule {r : Rst} (h : Us r) (t : ByteArray) (k : Int) : Us (runruleB r t k).2 := by
  unfold runruleB
  split
  · exact h
  · have hs : (r.rules.take (rpos t k r).toNat ++ r.rules.drop ((rpos t k r).toNat + 1)).Sublist r.rules := by
      rw [← List.eraseIdx_eq_take_drop_succ]
      exact List.eraseIdx_sublist ..
    exact ⟨h.rulS.sublist hs, h.offS, h.rowO, fun q hq => h.rulO q (hs.mem hq), h.prfO, h.offO, h.namO⟩
theorem us_pref {r : Rst} (h : Us r) (n : ByteArray) (l m u : Int) : Us (rprefB r n l m u).2 := by
  unfold rprefB
  split
  · exact h
  · rename_i h1
    split
    · exact h
    · split
      · exact h
      · refine ⟨h.rulS, h.offS, h.rowO, h.rulO, fun q hq => ?_, h.offO, h.namO⟩
        rcases List.mem_append.1 hq with hq | hq
        · exact h.prfO q hq
        · rw [List.mem_singleton.1 hq]
          simp only [Bool.or_eq_true, Bool.not_eq_true', decide_eq_true_eq, not_or, Bool.not_eq_false] at h1
          obtain ⟨⟨⟨⟨a1, a2⟩, a3⟩, a4⟩, a5⟩ := h1
          have b4 := num64 a4
          have b5 := num64 a5
          have b6 : in64 u := ⟨by have := b4.1; omega, by have := b5.2; omega⟩
          exact ⟨Nat.le_trans (word_size a1) (by decide), b4, b5, b6, b6⟩
theorem us_set {r : Rst} (h : Us r) (n : ByteArray) (v : Int) : Us (rsetB r n v).2 := by
  unfold rsetB
  simp only
  split
  · exact h
  · split
    · exact h
    · rename_i p hp
      split
      · exact h
      · rename_i h1
        refine ⟨h.rulS, h.offS, h.rowO, h.rulO, fun q hq => ?_, h.offO, h.namO⟩
        rcases List.mem_or_eq_of_mem_set hq with hq | rfl
        · exact h.prfO q hq
        · have hpo := h.prfO p (List.mem_of_getElem? hp)
          simp only [Bool.or_eq_true, decide_eq_true_eq, not_or] at h1
          exact ⟨hpo.1, hpo.2.1, hpo.2.2.1, hpo.2.2.2.1, by have := hpo.2.1.1; show _ ≤ v; omega, by have := hpo.2.2.1.2; show v ≤ _; omega⟩
theorem srtS_le (l : List ByteArray) : (srtS l).Pairwise fun a b => leBA a b = true := by
  unfold srtS
  refine List.pairwise_mergeSort ?_ ?_ _
  · intro a b c h1 h2
    rw [leBA_iff] at *
    exact List.le_trans h1 h2
  · intro a b
    simp only [Bool.or_eq_true, leBA_iff]
    exact List.le_total _ _
theorem us_turn {r : Rst} (h : Us r) (s : ByteArray) (on : Bool) : Us (rturnB r s on).2 := by
  unfold rturnB
  split
  · exact h
  · rename_i h1
    split
    · exact h
    · have hw : s.size ≤ 10000 := Nat.le_trans (word_size (by simpa using h1)) (by decide)
      refine ⟨h.rulS, ?_, h.rowO, h.rulO, h.prfO, fun q hq => ?_, h.namO⟩
      · show (rturnO r s on).Pairwise _
        unfold rturnO
        split
        · exact h.offS.sublist List.filter_sublist
        · exact srtS_le _
      · have hq : q ∈ rturnO r s on := hq
        unfold rturnO at hq
        split at hq
        · exact h.offO q (List.mem_filter.1 hq).1
        · have := (srtS_perm _).mem_iff.1 hq
          rcases List.mem_append.1 this with hq | hq
          · exact h.offO q (List.mem_filter.1 hq).1
          · rw [List.mem_singleton.1 hq]; exact hw
theorem us_name {r : Rst} (h : Us r) (n : Nm) : Us (rnameB r n).2 := by
  unfold rnameB
  split
  · exact h
  · rename_i hg
    have hg : isNameB n = true := by simpa using hg
    have h40 : n.x.size ≤ 40 := by
      unfold isNameB sizeBad at hg
      simp only [Bool.and_eq_true, Bool.not_eq_true', Bool.or_eq_false_iff, decide_eq_false_iff_not] at hg
      omega
    split
    · exact h
    · refine ⟨h.rulS, h.offS, h.rowO, h.rulO, h.prfO, h.offO, fun q hq => ?_⟩
      have := (nmOut_perm (own n) r.names).mem_iff.1 hq
      rcases List.mem_cons.1 this with rfl | hq
      · exact Nat.le_trans h40 (by decide)
      · exact h.namO q (List.mem_filter.1 hq).1
theorem us_play {b : Bst} {r : Rst} (h : Us r) (x : Scr) (a : Ac) : Us (playB b r x a).2.2 := by
  unfold playB
  simp only
  split
  · exact us_row h _
  · split
    · exact us_rule h _
    · split
      · exact us_unrule h _ _
      · split
        · exact us_pref h _ _ _ _
        · split
          · exact us_set h _ _
          · split
            · exact us_turn h _ _
            · split
              · exact us_name h _
              · exact h
theorem run_us (x : Scr) : ∀ i, Us (runI x i).2
  | 0 => us_new
  | i + 1 => by
    unfold runI
    split
    · exact run_us x i
    · exact us_play (run_us x i) x _

theorem byS_strOf' {l : List Int} (h : ∀ y ∈ l, 0 ≤ y ∧ y ≤ 255) : byS (strOfNums l) = l := by
  unfold byS strOfNums
  simp only [List.map_map]
  conv => rhs; rw [← List.map_id l]
  refine List.map_congr_left fun y hy => ?_
  obtain ⟨h1, h2⟩ := h y hy
  obtain ⟨m, rfl⟩ := Int.eq_ofNat_of_zero_le h1
  simp
  omega
theorem size_strOf (l : List Int) : (strOfNums l).size = l.length := by
  show (strOfNums l).data.size = _
  simp [strOfNums]
theorem namP_at {b : Bst} {r : Rst} (h : Lk b r) {n : Nm} (hn : n ∈ r.names) : namAtP b (keyN n) = n.x := by
  have hv : (lkI eqBA (keyN n) b.names 0).map (·.2) = some n.x := by
    rw [lkI_val (fun _ _ => eqBA_iff) h.namN, h.names.mem_iff]
    exact List.mem_map.2 ⟨n, hn, rfl⟩
  unfold namAtP
  cases hc : lkI eqBA (keyN n) b.names 0 with
  | none => rw [hc] at hv; cases hv
  | some x => rw [hc] at hv; exact Option.some.inj hv
theorem ord_eq {b : Bst} {r : Rst} (h : Lk b r) (u : Us r) : ordB b = r.rules := by
  refine (srtR_eq (keys_once h.rulN) ?_ (u.rulS.imp fun {x y} hxy => ?_)).symm
  · have := h.rules.map rowOf
    unfold ents at this
    rw [List.map_map] at this
    have e : (r.rules.map (rowOf ∘ fun q => (keyR q, q.x))) = r.rules := by
      conv => rhs; rw [← List.map_id r.rules]
      rfl
    rw [e] at this
    exact this.symm
  · cases hyx : ltR y x with
    | false => rfl
    | true => have := ltR_trans hxy hyx; rw [ltR_irrefl] at this; cases this
theorem offS_eq {b : Bst} {r : Rst} (h : Lk b r) (u : Us r) : offB b = r.off := by
  refine ((srtS_perm _).trans h.off).eq_of_pairwise (fun a c _ _ h1 h2 => ?_) (srtS_le _) u.offS
  rw [leBA_iff] at h1 h2
  exact BA_ext (List.le_antisymm h1 h2)
theorem pl_of {b : Bst} {r : Rst} (h : Lk b r) (hn : Ns r) (u : Us r) : Pl b r := by
  have e1 := ord_eq h u
  have e2 := offS_eq h u
  have e3 : namK b = r.names.map keyN := keys_sorted h hn
  have l1 := h.l1
  have l2 := h.l2
  have l3 := h.l3
  have l4 := h.l4
  have l5 := h.l5
  refine ⟨?_, ?_, h.prefs, e2, ⟨⟨by rw [h.rows]; omega, by rw [h.rows]; exact u.rowO⟩, ⟨by rw [h.lrules]; omega, h.rulN, fun e he => ?_⟩, ⟨by rw [h.prefs]; omega, by rw [h.prefs]; exact u.prfO⟩, ⟨by rw [h.loff]; omega, h.offN, fun e he => ?_⟩, ⟨by rw [h.lnames]; omega, h.namN, fun e he => ?_⟩⟩,
    ⟨⟨by omega, u.rowO⟩, ⟨by omega, u.rulO⟩, ⟨by omega, u.prfO⟩, ⟨by omega, u.offO⟩, ⟨by omega, fun n hm => ⟨?_, fun y hy => ?_, u.namO n hm⟩⟩⟩⟩
  · unfold blines rlines
    rw [h.rows, e1, h.prefs, e2, e3, List.map_map]
    congr 4
    refine List.map_congr_left fun n hm => ?_
    simp only [Function.comp]
    show [wName, hexB (byS (keyN n)), namAtP b (keyN n)] = [wName, hexB n.a, n.x]
    rw [byS_strOf' (hn.bts n hm), namP_at h hm]
  · unfold setRows rsetRows
    rw [e1, h.rows]
  · have := h.rules.mem_iff.1 he
    obtain ⟨q, hq, rfl⟩ := List.mem_map.1 this
    exact u.rulO q hq
  · have : e.1 ∈ b.off.map (·.1) := List.mem_map_of_mem he
    exact u.offO _ (h.off.mem_iff.1 this)
  · obtain ⟨n, hm, rfl⟩ := List.mem_map.1 (h.names.mem_iff.1 he)
    have := hn.len n hm
    refine ⟨?_, u.namO n hm⟩
    show (strOfNums n.a).size ≤ 1000
    rw [size_strOf]
    omega
  · have := hn.len n hm
    omega
  · have := hn.bts n hm y hy
    omega
theorem NamesPlays_law (x : Scr) (hx : Good x) (hb : ∀ m, ∀ y ∈ (nameAt x m).a, 0 ≤ y ∧ y ≤ 255) :
    CallOk Tryz.prog 3 [.pure (pvX x)] [] fun r st' => st' = [] ∧ r = vB true :=
  NamesPlays_ok isW39 isW43 sort46 x hx (pl_of (run_lk x _) (run_ns x hb _) (run_us x _))
end Go.Proofs.YtafngalmkblipaaGreatDoor
/- law10: a script out of the reading; the listed variables. -/
set_option linter.all false
set_option maxHeartbeats 4000000
set_option maxRecDepth 100000
namespace Go.Proofs.YtafngalmkblipaaGreatDoor
open Go Go.RowKit Go.Sy Go.Proofs Go.ChangeShapes Go.WideShapes Go.ChangeAt

section
variable {H : Type} {enc : TypeId × Value → H}
theorem r5 : Reads enc Tryz.prog 5 (fun n : Int => .val (.int .u8 n)) (fun _ => 1) (fun n => IntKind.u8.min ≤ n ∧ n ≤ IntKind.u8.max) := reads_int Tryz.underlying5
theorem r3 : Reads enc Tryz.prog 3 (fun n : Int => .val (.int .i64 n)) (fun _ => 1) (fun n => IntKind.i64.min ≤ n ∧ n ≤ IntKind.i64.max) := reads_int Tryz.underlying3
theorem r9 : Reads enc Tryz.prog 9 (fun s : ByteArray => .val (.string s)) (fun s => s.size + 1) (fun s => s.size ≤ maxLen) := reads_string Tryz.underlying9
def rBs := reads_slice (sz := 1) (P := Tryz.prog) (t := 38) (by kernel_rfl) (by kernel_rfl) (r5 (H := H) (enc := enc))
def rRow := reads_struct (P := Tryz.prog) (t := 44) (l := [9, 3, 9]) Tryz.underlying44 rfl (by kernel_rfl) (by kernel_rfl) (readsF_cons (r9 (H := H) (enc := enc)) (readsF_cons (r3 (H := H) (enc := enc)) (readsF_cons (r9 (H := H) (enc := enc)) readsF_nil)))
def rName := reads_struct (P := Tryz.prog) (t := 46) (l := [38, 9]) Tryz.underlying46 rfl (by kernel_rfl) (by kernel_rfl) (readsF_cons (rBs (H := H) (enc := enc)) (readsF_cons (r9 (H := H) (enc := enc)) readsF_nil))
def rAct := reads_struct (P := Tryz.prog) (t := 40) (l := [3, 3, 3, 3, 9, 38]) Tryz.underlying40 rfl (by kernel_rfl) (by kernel_rfl)
  (readsF_cons (r3 (H := H) (enc := enc)) (readsF_cons (r3 (H := H) (enc := enc)) (readsF_cons (r3 (H := H) (enc := enc)) (readsF_cons (r3 (H := H) (enc := enc)) (readsF_cons (r9 (H := H) (enc := enc)) (readsF_cons (rBs (H := H) (enc := enc)) readsF_nil))))))
def rRows := reads_slice (sz := 3) (P := Tryz.prog) (t := 22) (by kernel_rfl) (by kernel_rfl) (rRow (H := H) (enc := enc))
def rNames := reads_slice (sz := 2) (P := Tryz.prog) (t := 23) (by kernel_rfl) (by kernel_rfl) (rName (H := H) (enc := enc))
def rActs := reads_slice (sz := 6) (P := Tryz.prog) (t := 24) (by kernel_rfl) (by kernel_rfl) (rAct (H := H) (enc := enc))
def rScr := reads_struct (P := Tryz.prog) (t := 26) (l := [22, 23, 24]) Tryz.underlying26 rfl (by kernel_rfl) (by kernel_rfl) (readsF_cons (rRows (H := H) (enc := enc)) (readsF_cons (rNames (H := H) (enc := enc)) (readsF_cons (rActs (H := H) (enc := enc)) readsF_nil)))
def aScr := (rScr (H := H) (enc := enc)).agg (by kernel_rfl)
end

def toR (y : ByteArray × Int × ByteArray × Unit) : Rw := ⟨y.1, y.2.1, y.2.2.1⟩
def toN (y : (Bool × List Int) × ByteArray × Unit) : Nm := ⟨y.1.1, y.1.2, y.2.1⟩
def toA (y : Int × Int × Int × Int × ByteArray × (Bool × List Int) × Unit) : Ac := ⟨y.1, y.2.1, y.2.2.1, y.2.2.2.1, y.2.2.2.2.1, y.2.2.2.2.2.1.1, y.2.2.2.2.2.1.2⟩
def toX (x : (Bool × List (ByteArray × Int × ByteArray × Unit)) × (Bool × List ((Bool × List Int) × ByteArray × Unit)) × (Bool × List (Int × Int × Int × Int × ByteArray × (Bool × List Int) × Unit)) × Unit) : Scr :=
  ⟨x.1.1, x.1.2.map toR, x.2.1.1, x.2.1.2.map toN, x.2.2.1.1, x.2.2.1.2.map toA⟩

theorem sumWt_mem {α : Type} {wt : α → Nat} : ∀ {l : List α} {y : α}, y ∈ l → wt y ≤ sumWt wt l
  | x :: l, y, h => by
    simp only [sumWt, List.map_cons, List.sum_cons]
    rcases List.mem_cons.1 h with rfl | h
    · omega
    · have := sumWt_mem (wt := wt) h
      simp only [sumWt] at this
      omega
theorem sumWt_len {α : Type} {wt : α → Nat} (hw : ∀ y, 1 ≤ wt y) : ∀ l : List α, l.length ≤ sumWt wt l
  | [] => Nat.zero_le _
  | x :: l => by
    have := sumWt_len hw l
    have := hw x
    simp only [sumWt, List.map_cons, List.sum_cons, List.length_cons] at *
    omega


/-- **A script, read.** -/
theorem scr_of {H : Type} {enc : TypeId × Value → H} {W : World} {v0 : Value} {d0 : DataW H} {p0 : List MemPlace} {base : Nat} (hv : Value.okWide Tryz.prog W .any base 26 v0) (h0 : DataW.Trod enc Tryz.prog W 0 (fun _ => true) true 26 v0 d0 p0) (hb : Rows.uptoBulk d0 ≤ 1048576) :
    ∃ X : Scr, Good X ∧ RP allImm W (pvX X) v0 ∧ ∀ m, ∀ y ∈ (nameAt X m).a, 0 ≤ y ∧ y ≤ 255 := by
  obtain ⟨x, i0, w0, c0⟩ := aScr (H := H) (enc := enc) W v0 d0 p0 base hv h0
  have w0' : 1 + ((1 + sumWt (fun y : ByteArray × Int × ByteArray × Unit => 1 + ((y.1.size + 1) + (1 + ((y.2.2.1.size + 1) + 0)))) x.1.2) +
    ((1 + sumWt (fun y : (Bool × List Int) × ByteArray × Unit => 1 + ((1 + sumWt (fun _ : Int => 1) y.1.2) + ((y.2.1.size + 1) + 0))) x.2.1.2) +
    ((1 + sumWt (fun y : Int × Int × Int × Int × ByteArray × (Bool × List Int) × Unit => 1 + (1 + (1 + (1 + (1 + ((y.2.2.2.2.1.size + 1) + ((1 + sumWt (fun _ : Int => 1) y.2.2.2.2.2.1.2) + 0))))))) x.2.2.1.2) + 0))) ≤ Rows.uptoBulk d0 := w0
  have s1 : sumWt (fun y : ByteArray × Int × ByteArray × Unit => 1 + ((y.1.size + 1) + (1 + ((y.2.2.1.size + 1) + 0)))) x.1.2 ≤ 1048576 := by omega
  have s2 : sumWt (fun y : (Bool × List Int) × ByteArray × Unit => 1 + ((1 + sumWt (fun _ : Int => 1) y.1.2) + ((y.2.1.size + 1) + 0))) x.2.1.2 ≤ 1048576 := by omega
  have s3 : sumWt (fun y : Int × Int × Int × Int × ByteArray × (Bool × List Int) × Unit => 1 + (1 + (1 + (1 + (1 + ((y.2.2.2.2.1.size + 1) + ((1 + sumWt (fun _ : Int => 1) y.2.2.2.2.2.1.2) + 0))))))) x.2.2.1.2 ≤ 1048576 := by omega
  have l1 := sumWt_len (wt := fun y : ByteArray × Int × ByteArray × Unit => 1 + ((y.1.size + 1) + (1 + ((y.2.2.1.size + 1) + 0)))) (fun y => by omega) x.1.2
  have l2 := sumWt_len (wt := fun y : (Bool × List Int) × ByteArray × Unit => 1 + ((1 + sumWt (fun _ : Int => 1) y.1.2) + ((y.2.1.size + 1) + 0))) (fun y => by omega) x.2.1.2
  have l3 := sumWt_len (wt := fun y : Int × Int × Int × Int × ByteArray × (Bool × List Int) × Unit => 1 + (1 + (1 + (1 + (1 + ((y.2.2.2.2.1.size + 1) + ((1 + sumWt (fun _ : Int => 1) y.2.2.2.2.2.1.2) + 0))))))) (fun y => by omega) x.2.2.1.2
  have hg : Good (toX x) := by
    refine good_of (toX x) ?_ ?_ ?_ ?_ ?_ ?_ ?_
    · show ((x.1.2.map toR).length : Int) ≤ 2000000
      rw [List.length_map]; omega
    · show ((x.2.1.2.map toN).length : Int) ≤ 2000000
      rw [List.length_map]; omega
    · show ((x.2.2.1.2.map toA).length : Int) ≤ 2000000
      rw [List.length_map]; omega
    · intro m hm
      obtain ⟨y, hy, rfl⟩ := List.mem_map.1 hm
      have h3 := sumWt_mem (wt := fun y : (Bool × List Int) × ByteArray × Unit => 1 + ((1 + sumWt (fun _ : Int => 1) y.1.2) + ((y.2.1.size + 1) + 0))) hy
      have h4 := sumWt_len (wt := fun _ : Int => 1) (fun _ => Nat.le_refl _) y.1.2
      show (y.1.2.length : Int) ≤ 2000000
      omega
    · intro m hm
      obtain ⟨y, hy, rfl⟩ := List.mem_map.1 hm
      have h3 := sumWt_mem (wt := fun y : (Bool × List Int) × ByteArray × Unit => 1 + ((1 + sumWt (fun _ : Int => 1) y.1.2) + ((y.2.1.size + 1) + 0))) hy
      show (y.2.1.size : Int) ≤ 2000000
      omega
    · intro m hm
      obtain ⟨y, hy, rfl⟩ := List.mem_map.1 hm
      have h3 := sumWt_mem (wt := fun y : ByteArray × Int × ByteArray × Unit => 1 + ((y.1.size + 1) + (1 + ((y.2.2.1.size + 1) + 0)))) hy
      exact ⟨by show (y.1.size : Int) ≤ 2000000; omega, by show (y.2.2.1.size : Int) ≤ 2000000; omega⟩
    · intro m hm
      obtain ⟨y, hy, rfl⟩ := List.mem_map.1 hm
      have h3 := sumWt_mem (wt := fun y : Int × Int × Int × Int × ByteArray × (Bool × List Int) × Unit => 1 + (1 + (1 + (1 + (1 + ((y.2.2.2.2.1.size + 1) + ((1 + sumWt (fun _ : Int => 1) y.2.2.2.2.2.1.2) + 0))))))) hy
      show (y.2.2.2.2.1.size : Int) ≤ 2000000
      omega
  have cX : RP allImm W (pvX (toX x)) v0 := by
    have e1 : (x.1.2.map toR).map pvR = x.1.2.map fun y => PV.agg (PV.cells (.val (.string y.1)) ++ (PV.cells (.val (.int .i64 y.2.1)) ++ (PV.cells (.val (.string y.2.2.1)) ++ []))) := by rw [List.map_map]; rfl
    have e2 : (x.2.1.2.map toN).map pvN = x.2.1.2.map fun y => PV.agg (PV.cells (.list 1 y.1.1 (y.1.2.map fun n : Int => .val (.int .u8 n))) ++ (PV.cells (.val (.string y.2.1)) ++ [])) := by rw [List.map_map]; rfl
    have e3 : (x.2.2.1.2.map toA).map pvA = x.2.2.1.2.map fun y => PV.agg (PV.cells (.val (.int .i64 y.1)) ++ (PV.cells (.val (.int .i64 y.2.1)) ++ (PV.cells (.val (.int .i64 y.2.2.1)) ++ (PV.cells (.val (.int .i64 y.2.2.2.1)) ++ (PV.cells (.val (.string y.2.2.2.2.1)) ++ (PV.cells (.list 1 y.2.2.2.2.2.1.1 (y.2.2.2.2.2.1.2.map fun n : Int => .val (.int .u8 n))) ++ [])))))) := by rw [List.map_map]; rfl
    unfold pvX toX
    simp only
    rw [e1, e2, e3]
    exact c0
  refine ⟨toX x, hg, cX, fun m => ?_⟩
  have hall : ∀ n ∈ (toX x).names, ∀ y ∈ n.a, 0 ≤ y ∧ y ≤ 255 := fun n hn y hy => by
    obtain ⟨z, hz, rfl⟩ := List.mem_map.1 hn
    have := (i0.2.1.2.2 z hz).1.2.2 y hy
    have e1 : IntKind.u8.min = 0 := rfl
    have e2 : IntKind.u8.max = 255 := rfl
    omega
  unfold nameAt
  split
  · intro y hy; cases hy
  · rw [List.getD_eq_getElem?_getD]
    cases hc : (toX x).names[m.toNat]? with
    | none => intro y hy; cases hy
    | some z => exact hall z (List.mem_of_getElem? hc)

theorem gAscii : Tryz.prog.globalNamed "strings.asciiSpace" = some 2 := by kernel_rfl
theorem gPow : Tryz.prog.globalNamed "internal/strconv.uint64pow10" = some 0 := by kernel_rfl
theorem ascii_eq : (Rows.laid_strings_asciiSpace : DataW Unit) = Lib.tabData .u8 Lib.asciiSpaceTab := by kernel_rfl
theorem pow_eq : (Rows.laid_internal_strconv_uint64pow10 : DataW Unit) = Lib.tabData .u64 Lib.pow10Tab := by kernel_rfl
abbrev laid5 : List (String × DataW Unit) := [("math/bits.deBruijn32tab", Rows.laid_math_bits_deBruijn32tab), ("math/bits.deBruijn64tab", Rows.laid_math_bits_deBruijn64tab), ("internal/strconv.uint64pow10", Rows.laid_internal_strconv_uint64pow10), ("unicode.White_Space", Rows.laid_unicode_White_Space), ("strings.asciiSpace", Rows.laid_strings_asciiSpace)]
theorem tableA {W : World} (h : laidMet Tryz.prog laid5 W) : Lib.TabIs Tryz.prog W "strings.asciiSpace" .u8 Lib.asciiSpaceTab := by
  have h := laidMet.tail (laidMet.tail (laidMet.tail (laidMet.tail h)))
  rw [ascii_eq] at h
  exact Lib.tabIs_of_head (rest := []) gAscii (t := 225) (e := 5) (n := 256) (by kernel_rfl) (by kernel_rfl) (by kernel_rfl) (by kernel_rfl) (by kernel_rfl) h
theorem tableP {W : World} (h : laidMet Tryz.prog laid5 W) : Lib.TabIs Tryz.prog W "internal/strconv.uint64pow10" .u64 Lib.pow10Tab := by
  have h := laidMet.tail (laidMet.tail h)
  rw [pow_eq] at h
  exact Lib.tabIs_of_head gPow (t := 208) (e := 173) (n := 20) (by kernel_rfl) (by kernel_rfl) (by kernel_rfl) (by kernel_rfl) (by kernel_rfl) h
theorem gl_of {W : World} (h : laidMet Tryz.prog laid5 W) : Gl allImm W := by
  intro p hp
  have hp : p = tabFact 2 .u8 Lib.asciiSpaceTab ∨ p = tabFact 0 .u64 Lib.pow10Tab := by simpa [glFacts] using hp
  rcases hp with rfl | rfl
  · exact TabAt.of_tabIs gAscii rfl (tableA h)
  · exact TabAt.of_tabIs gPow rfl (tableP h)

/-- A world for the witness: the settled one with two blocks more (unicode.White_Space's ranges; its RangeTable), the five variables holding what their initialisers lay. -/
noncomputable def laidWorld (os : Os) : World :=
  let N := (World.settled Tryz.prog os).heap.size
  let w0 := World.holding Tryz.prog os ⟨#[.cells (Lib.whiteT.map fun (z : Nat) => Value.int .u16 (z : Int)).toArray (YtafngalmkblipaaGreatDoor.lays157_ren.t 198), .cells #[.slice (some ⟨N, 0, none⟩) 7 7, .slice none 0 0, .int .i64 2] (YtafngalmkblipaaGreatDoor.lays157_ren.t 196)], #[], []⟩
  let put (h : Array Obj) (g : Nat) (cs : Array Value) : Array Obj := h.modify g fun
    | .cells _ t frozen => .cells cs t frozen
    | o => o
  let h1 := put w0.heap 2 (Lib.asciiSpaceTab.map fun z => Value.int .u8 z).toArray
  let h2 := put h1 5 #[.pointer (some ⟨N + 1, 0, none⟩)]
  let h3 := put h2 0 (Lib.pow10Tab.map fun z => Value.int .u64 z).toArray
  let h4 := put h3 3 (([0, 1, 28, 2, 29, 14, 24, 3, 30, 22, 20, 15, 25, 17, 4, 8, 31, 27, 13, 23, 21, 19, 16, 7, 26, 12, 18, 6, 11, 5, 10, 9] : List Int).map fun z => Value.int .u8 z).toArray
  let h5 := put h4 4 (([0, 1, 56, 2, 57, 49, 28, 3, 61, 58, 42, 50, 38, 29, 17, 4, 62, 47, 59, 36, 45, 43, 51, 22, 53, 39, 33, 30, 24, 18, 12, 5, 63, 55, 48, 27, 60, 41, 37, 16, 46, 35, 44, 21, 52, 32, 23, 11, 54, 26, 40, 15, 34, 20, 31, 10, 25, 14, 19, 9, 13, 8, 7, 6] : List Int).map fun z => Value.int .u8 z).toArray
  { w0 with heap := h5 }
theorem own3 : ownKnob Tryz.prog.godebug = none := by kernel_rfl
end Go.Proofs.YtafngalmkblipaaGreatDoor

set_option linter.all false
set_option maxHeartbeats 4000000
set_option maxRecDepth 100000
namespace Go.Proofs.YtafngalmkblipaaGreatDoor
open Go Go.RowKit Go.Sy Go.Proofs Go.ChangeShapes Go.WideShapes Go.ChangeAt

theorem contract (H : Type) (enc : TypeId × Value → H) (W : World) (base : Nat) (args : Array Value) (ds gs : List (DataW H)) (before : List MemPlace)
    (hval : ∀ (j : Nat) t v, Tryz.f3.params[j]? = some t → args[j]? = some v → Value.okWide Tryz.prog W .any base t v)
    (hW : DataW.Whole enc Tryz.prog Tryz.f3.params.toList Rows.namesPlaysSpec.vars false W args.toList ds gs before) (hL : laidMetH Tryz.prog Rows.namesPlaysRow.laid W) (hk : Rows.uptoSmall H (ds ++ gs) = true) :
    Calls Tryz.prog 3 args W fun e W' => ∃ v, e = .returned v ∧ Rows.namesPlaysSpec.post enc Tryz.prog Tryz.f3 false true false false W args v W' := by
  have hW' := hW
  obtain ⟨p, q, hA0, hV, rfl, hfz, hnd⟩ := hW
  have hA : DataW.TrodAll enc Tryz.prog W 0 (fun _ => true) true Tryz.f3.params.toList args.toList ds p := hA0
  rw [Tryz.params3] at hA hval
  obtain ⟨v0, vs0, d0, ds0, p0, q0, hargs, rfl, rfl, h0, hr0⟩ := trodAll_cons hA
  obtain ⟨rfl, rfl, rfl⟩ := trodAll_nil hr0
  obtain rfl : args = #[v0] := by cases args; simp_all
  obtain ⟨rfl, rfl⟩ := trodVars_none hV
  have hb : Rows.uptoBulkAll [d0] ≤ 1048576 := by
    have := of_decide_eq_true hk
    simpa using this
  simp only [Rows.uptoBulkAll] at hb
  obtain ⟨X, hg, cX, hXb⟩ := scr_of (H := H) (enc := enc) (hval 0 26 v0 rfl rfl) h0 (by omega)
  have ok := NamesPlays_law X hg hXb
  exact law_post (f := 3) (fn := Tryz.f3) (s := Rows.namesPlaysSpec) (tb := 4) (svs := [.pure (pvX X)]) (by kernel_rfl) (by kernel_rfl) rfl (by kernel_rfl) Tryz.underlying4 rfl hW' (gl_of hL) ⟨v0, _, rfl, cX, rfl⟩ (ok.mono fun r st' h => ⟨h.2, h.1⟩)

abbrev zArgs : Array Value := #[.agg #[.slice none 0 0, .slice none 0 0, .slice none 0 0]]
theorem laid_met (os : Os) : laidMet Tryz.prog Rows.namesPlaysRow.laid ((laidWorld os).forCall (fun _ _ => 0) ⟨#[], zArgs, []⟩).memory :=
  laidMet_of_run' 8 (by kernel_rfl) (by kernel_rfl)
theorem reads (os : Os) {H : Type} (enc : TypeId × Value → H) : ∃ places, DataW.whole enc Tryz.prog ((laidWorld os).forCall (fun _ _ => 0) ⟨#[], zArgs, []⟩).memory Tryz.f3.params.toList Rows.namesPlaysSpec.vars false zArgs.toList 8 = some ([.agg [.nil, .nil, .nil]], [], places) :=
  ⟨[], by kernel_rfl⟩

set_option maxRecDepth 100000 in
theorem liftedUpto (os : Os) (started : os.Started) (H : Type) (enc : TypeId × Value → H) (F : Stop.Interp) :
    ReturnsInHanded {} Tryz.checked os 3 .any ((Rows.OpenSpec.upto Rows.namesPlaysSpec).preRow enc Tryz.prog Tryz.f3 Rows.namesPlaysUptoRow.domain false Rows.namesPlaysUptoRow.laid) (((Rows.OpenSpec.upto Rows.namesPlaysSpec).at F).post enc Tryz.prog Tryz.f3 false true false false) := by
  obtain ⟨places, hx⟩ := reads os enc
  refine returnsInHanded_of_row (C := Tryz.checked) (s := Rows.OpenSpec.upto Rows.namesPlaysSpec) own3 started (by kernel_rfl) Tryz.func3
    (witness_row_atRef (enc := enc) (C := Tryz.checked) false (laidWorld os) zArgs rfl (by kernel_rfl) (by kernel_rfl) (by kernel_rfl)
      (OpenSpec.preRow_of_cond 8 hx (by kernel_rfl) (fun k hk => by cases hk; kernel_rfl) (by kernel_rfl) (laid_met os))) ?_
  intro W base args ds gs before hval hW _ hcond _ hL _ _
  exact contract H enc W base args ds gs before hval hW hL (hcond _ rfl)

theorem saidUpto : Rows.NamesPlaysUptoSaid :=
  OpenClaim.holds_of_cond 3 Tryz.f3 rfl rfl rfl rfl rfl rfl rfl ⟨rfl, rfl, rfl, rfl, rfl⟩ rfl rfl rfl rfl rfl (by kernel_rfl) Tryz.func3 (by kernel_rfl)
    (of_decide_eq_true (by kernel_rfl)) (by unfold Func.isWrapper; first | (rw [if_pos (by decide +kernel)]; kernel_rfl) | (rw [if_neg (by decide +kernel)]; exact ⟨rfl, rfl⟩))
    (fun os started H enc _ F => by rw [OpenClaim.pre_eq_preRow]; exact liftedUpto os started H enc F)

/-- No parameter wants a stand-in; the program's own looks are off: what the card asks. -/
theorem plain (f : FuncId) (fn : Func) (hf : Tryz.pinned.checked.prog.funcNamed Rows.namesPlaysRow.func = some f) (hfn : Tryz.pinned.checked.prog.funcs[f]? = some fn) :
    true = Tryz.pinned.checked.prog.looks [] ∧ ∀ (j : Nat) t, fn.params[j]? = some t → Tryz.pinned.checked.prog.wantsStandIn t = false := by
  obtain rfl : f = 3 := Option.some.inj ((show Tryz.prog.funcNamed Rows.namesPlaysRow.func = some 3 by kernel_rfl).symm.trans hf) |>.symm
  obtain rfl : fn = Tryz.f3 := (Option.some.inj (Tryz.func3.symm.trans hfn)).symm
  refine ⟨by kernel_rfl, fun j t ht => ?_⟩
  have hall : (Tryz.f3.params.toList.all fun t => Tryz.prog.wantsStandIn t == false) = true := by kernel_rfl
  have := List.all_eq_true.1 hall t (Array.mem_toList_iff.2 (Array.mem_of_getElem? ht))
  have h2 : Tryz.prog.wantsStandIn t = false := by simpa using this
  exact h2

theorem NamesPlays_holds : Rows.NamesPlaysUptoCardSaid :=
  Claim7.holds_tied_plain_at .later [] _ _ _ _ saidUpto (fun _ h => by cases h) (by kernel_rfl) (fun _ h => by cases h) namesPlaysUpto_row_tie rfl ⟨rfl, rfl⟩ (by kernel_rfl) rfl plain (by kernel_rfl)
#print axioms NamesPlays_holds
end Go.Proofs.YtafngalmkblipaaGreatDoor
