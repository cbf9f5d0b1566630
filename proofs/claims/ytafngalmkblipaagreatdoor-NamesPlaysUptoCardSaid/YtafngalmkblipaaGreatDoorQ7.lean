/- Part 7 of 8: the walks and laws on which the last part rests. No conditions. -/
import Derived.Test.YtafngalmkblipaaGreatDoorQ6
import Derived.StringKeys
import Derived.Shelf.SlIter.Nil
import Derived.Shelf.SlIter.Sorted
import Derived.Shelf.SortM.Plain
import Derived.Shelf.SortM.SortNone
import Derived.WalkKit
import Derived.StillTailTactics
import Derived.Laws.Cover1
import Derived.Shelf.Strconv.Itoa3
import Derived.Shelf.Strings.OnBuilder
import Derived.Shelf.Strings.BuilderK
import Derived.Lib.ItoaLen
import Derived.Shelf.SlSortCmp.NoneTotal
/- law10, the plain law: the reference's names stay in ascending order, and hold bytes. -/
set_option linter.all false
set_option maxHeartbeats 4000000
set_option maxRecDepth 100000
namespace Go.Proofs.YtafngalmkblipaaGreatDoor
open Go Go.RowKit Go.Sy Go.Proofs

abbrev bl (b : ByteArray) : List UInt8 := b.data.toList
/-- One name's address comes ahead of another's. -/
def ltN (a b : Nm) : Prop := bl (keyN a) < bl (keyN b)
theorem ltN_trans {a b c : Nm} (h : ltN a b) (g : ltN b c) : ltN a c := List.lt_trans h g
theorem ltN_not {a b : Nm} (h : ltN a b) : keyN a ≠ keyN b := fun e => by
  unfold ltN at h
  rw [e] at h
  exact List.lt_irrefl _ h
theorem leBA_iff {a b : ByteArray} : leBA a b = true ↔ bl a ≤ bl b := by rw [leBA_le]; exact decide_eq_true_iff
theorem lt_of_not_le {a b : ByteArray} (h : ¬ leBA a b = true) : bl b < bl a := by
  rw [leBA_iff] at h
  exact List.not_le.1 h
theorem lt_of_le {a b : ByteArray} (h : leBA a b = true) (hne : ¬ eqBA a b = true) : bl a < bl b := by
  rw [leBA_iff] at h
  rcases List.le_iff_lt_or_eq.1 h with h | h
  · exact h
  · exact absurd (eqBA_iff.2 (BA_ext h)) hne

theorem nmIns_sorted (n : Nm) {l : List Nm} (hl : l.Pairwise ltN) : ∀ i, i ≤ l.length →
    (nmIns n l i).1.Pairwise ltN ∧ (∀ z ∈ (nmIns n l i).1, ∀ j y, i ≤ j → l[j]? = some y → ltN z y) ∧ ((nmIns n l i).2 = false → ∀ z ∈ (nmIns n l i).1, ltN z n)
  | 0, _ => ⟨.nil, fun z hz => (by cases hz), fun _ z hz => (by cases hz)⟩
  | i + 1, hi => by
    obtain ⟨h1, h2, h3⟩ := nmIns_sorted n hl i (by omega)
    obtain ⟨y, hy⟩ : ∃ y, l[i]? = some y := ⟨_, List.getElem?_eq_getElem (by omega)⟩
    have hyj : ∀ j q, i + 1 ≤ j → l[j]? = some q → ltN y q := fun j q hj hq => by
      obtain ⟨a1, a2⟩ := List.getElem?_eq_some_iff.1 hy
      obtain ⟨b1, b2⟩ := List.getElem?_eq_some_iff.1 hq
      have := List.pairwise_iff_getElem.1 hl i j a1 b1 (by omega)
      rw [a2, b2] at this
      exact this
    have app : ∀ {L : List Nm} {x : Nm}, L.Pairwise ltN → (∀ z ∈ L, ltN z x) → (L ++ [x]).Pairwise ltN := fun hL hx =>
      List.pairwise_append.2 ⟨hL, List.pairwise_singleton _ _, fun a ha b hb => by rw [List.mem_singleton.1 hb]; exact hx a ha⟩
    have memApp : ∀ {L : List Nm} {x z : Nm}, z ∈ L ++ [x] → z ∈ L ∨ z = x := fun h => by simpa using h
    rw [nmIns, hy]
    simp only
    generalize hp : nmIns n l i = p at *
    obtain ⟨res, ins⟩ := p
    simp only at h1 h2 h3 ⊢
    have hzy : ∀ z ∈ res, ltN z y := fun z hz => h2 z hz i y (Nat.le_refl _) hy
    split
    · rename_i hc
      simp only [Bool.and_eq_true, Bool.not_eq_true'] at hc
      obtain ⟨hins, hle⟩ := hc
      have hn := h3 hins
      split
      · rename_i he
        have hk := eqBA_iff.1 he
        refine ⟨app h1 hn, fun z hz j q hj hq => ?_, fun e => (by cases e)⟩
        rcases memApp hz with hz | rfl
        · exact h2 z hz j q (by omega) hq
        · have := hyj j q hj hq
          unfold ltN at this ⊢
          rw [hk]
          exact this
      · rename_i he
        have hny : ltN n y := lt_of_le hle he
        refine ⟨app (app h1 hn) (fun z hz => ?_), fun z hz j q hj hq => ?_, fun e => (by cases e)⟩
        · rcases memApp hz with hz | rfl
          · exact hzy z hz
          · exact hny
        · rcases memApp hz with hz | rfl
          · rcases memApp hz with hz | rfl
            · exact h2 z hz j q (by omega) hq
            · exact ltN_trans hny (hyj j q hj hq)
          · exact hyj j q hj hq
    · rename_i hc
      split
      · rename_i he
        exact ⟨h1, fun z hz j q hj hq => h2 z hz j q (by omega) hq, h3⟩
      · rename_i he
        refine ⟨app h1 hzy, fun z hz j q hj hq => ?_, fun hins z hz => ?_⟩
        · rcases memApp hz with hz | rfl
          · exact h2 z hz j q (by omega) hq
          · exact hyj j q hj hq
        · rcases memApp hz with hz | rfl
          · exact h3 hins z hz
          · refine lt_of_not_le (fun hle => hc ?_)
            have hins : ins = false := hins
            rw [hins, hle]
            rfl
theorem nmOut_sorted (n : Nm) {l : List Nm} (hl : l.Pairwise ltN) : (nmOut n l).Pairwise ltN := by
  obtain ⟨h1, h2, h3⟩ := nmIns_sorted n hl l.length (Nat.le_refl _)
  unfold nmOut
  split
  · exact h1
  · rename_i h
    exact List.pairwise_append.2 ⟨h1, List.pairwise_singleton _ _, fun a ha b hb => by rw [List.mem_singleton.1 hb]; exact h3 (by simpa using h) a ha⟩

/-- The reference's names. -/
structure Ns (r : Rst) : Prop where
  srt : r.names.Pairwise ltN
  bts : ∀ n ∈ r.names, ∀ y ∈ n.a, 0 ≤ y ∧ y ≤ 255
  len : ∀ n ∈ r.names, n.a.length ≤ 16
theorem ns_new : Ns newR := ⟨.nil, fun n h => (by cases h), fun n h => (by cases h)⟩
theorem ns_name {r : Rst} {n : Nm} (h : Ns r) (hn : ∀ y ∈ n.a, 0 ≤ y ∧ y ≤ 255) : Ns (rnameB r n).2 := by
  unfold rnameB
  split
  · exact h
  · rename_i hg
    have hg : isNameB n = true := by simpa using hg
    have h16 : n.a.length ≤ 16 := by
      unfold isNameB sizeBad at hg
      simp only [Bool.and_eq_true, Bool.not_eq_true', Bool.or_eq_false_iff, decide_eq_false_iff_not] at hg
      omega
    split
    · exact h
    · refine ⟨nmOut_sorted _ h.srt, fun q hq => ?_, fun q hq => ?_⟩
      · have := (nmOut_perm (own n) r.names).mem_iff.1 hq
        rcases List.mem_cons.1 this with rfl | hq
        · exact hn
        · exact h.bts q (List.mem_filter.1 hq).1
      · have := (nmOut_perm (own n) r.names).mem_iff.1 hq
        rcases List.mem_cons.1 this with rfl | hq
        · exact h16
        · exact h.len q (List.mem_filter.1 hq).1
theorem ns_play {b : Bst} {r : Rst} (h : Ns r) (x : Scr) (hx : ∀ m, ∀ y ∈ (nameAt x m).a, 0 ≤ y ∧ y ≤ 255) (a : Ac) : Ns (playB b r x a).2.2 := by
  have keep : ∀ {r' : Rst}, r'.names = r.names → Ns r' := fun e => ⟨by rw [e]; exact h.srt, by rw [e]; exact h.bts, by rw [e]; exact h.len⟩
  unfold playB
  simp only
  split
  · apply keep
    show (rrowB r (rowAt x a.a)).2.names = r.names
    unfold rrowB
    repeat' split
    all_goals rfl
  · split
    · apply keep
      show (rruleB r (rowAt x a.a)).2.names = r.names
      unfold rruleB
      repeat' split
      all_goals rfl
    · split
      · apply keep
        show (runruleB r (rowAt x a.a).t (rowAt x a.a).k).2.names = r.names
        unfold runruleB
        repeat' split
        all_goals rfl
      · split
        · apply keep
          show (rprefB r a.s a.a a.b a.c).2.names = r.names
          unfold rprefB
          repeat' split
          all_goals rfl
        · split
          · apply keep
            show (rsetB r a.s a.a).2.names = r.names
            unfold rsetB
            simp only
            repeat' split
            all_goals rfl
          · split
            · apply keep
              show (rturnB r a.s (!(a.a == 0))).2.names = r.names
              unfold rturnB
              repeat' split
              all_goals rfl
            · split
              · exact ns_name h (hx a.a)
              · exact h
theorem run_ns (x : Scr) (hx : ∀ m, ∀ y ∈ (nameAt x m).a, 0 ≤ y ∧ y ≤ 255) : ∀ i, Ns (runI x i).2
  | 0 => ns_new
  | i + 1 => by
    unfold runI
    split
    · exact run_ns x hx i
    · exact ns_play (run_ns x hx i) x hx _

/-! ## names told -/
def tdO (o : Option (Nat × ByteArray)) : ByteArray × Bool := match o with | some x => (x.2, true) | none => (noS, false)
def toldB (b : Bst) (k : ByteArray) : ByteArray × Bool := tdO (lkI eqBA k b.names 0)
def zNm : Nm := ⟨true, [], noS⟩
def rtoldB (r : Rst) (k : ByteArray) : ByteArray × Bool := if 0 ≤ fstI (fun n => eqBA (keyN n) k) r.names 0 then ((r.names.getD (fstI (fun n => eqBA (keyN n) k) r.names 0).toNat zNm).x, true) else (noS, false)
/-- The addresses in order. -/
theorem keys_sorted {b : Bst} {r : Rst} (h : Lk b r) (hn : Ns r) : srtS (b.names.map (·.1)) = r.names.map keyN := by
  have hp : (srtS (b.names.map (·.1))).Perm (r.names.map keyN) := by
    refine (srtS_perm _).trans ?_
    have := h.names.map (·.1)
    unfold entN at this
    rw [List.map_map] at this
    exact this
  have hs : (srtS (b.names.map (·.1))).Pairwise fun a b => leBA a b = true := by
    unfold srtS
    refine List.pairwise_mergeSort ?_ ?_ _
    · intro a b c h1 h2
      rw [leBA_iff] at *
      exact List.le_trans h1 h2
    · intro a b
      simp only [Bool.or_eq_true, leBA_iff]
      exact List.le_total _ _
  have hr : (r.names.map keyN).Pairwise fun a b => leBA a b = true := by
    rw [List.pairwise_map]
    exact hn.srt.imp fun {a b} h => leBA_iff.2 (List.le_of_lt h)
  refine hp.eq_of_pairwise (fun a b _ _ h1 h2 => ?_) hs hr
  rw [leBA_iff] at h1 h2
  exact BA_ext (List.le_antisymm h1 h2)
end Go.Proofs.YtafngalmkblipaaGreatDoor
/- law10: slices.Sorted(maps.Keys(m)) by the shelf's contracts. -/
set_option linter.all false
set_option maxHeartbeats 4000000
set_option maxRecDepth 100000
namespace Go.Proofs.YtafngalmkblipaaGreatDoor
open Go Go.RowKit Go.Sy Go.Proofs Go.Maps Go.Sort Go.Shelf Go.WideShapes Go.WideMaps

theorem RM_keys {χ : Nat → Color} {w : World} : ∀ {es : List (ByteArray × PV)} {l : List MapEntry}, RM χ w (es.map fun e => (pvB e.1, e.2)) l → l.map (·.key) = es.map fun e => Value.string e.1
  | [], l, h => by have : l = [] := h; subst this; rfl
  | e :: es, l, h => by
    obtain ⟨x, t, rfl, h1, h2, h3⟩ := h
    have h1 : x.key = .string e.1 := h1
    rw [List.map_cons, List.map_cons, h1, RM_keys h3]

abbrev anyR : Value → Option (DataW Unit × List MemPlace) := fun _ => some (.nil, [])
theorem rd_key' {P : Program} {k : TypeId} (hk : P.underlying k = some .string) {x : MapEntry} {b : ByteArray} (h : x.key = .string b) (hb : b.size ≤ maxLen) : Go.WideElems.rd P k anyR x = some (.string b.data.toList, .nil) := by
  unfold Go.WideElems.rd
  rw [h, keyOf_string_mk hk hb]
  rfl
theorem sortedKeys_ok {P : Program} {ρK ρS : Ren} (LK : SlLaysZ.n10 P ρK) (LS : SlLaysZ.n6 P ρS) (hs : ∀ m, AnyZ.SortsIn P ρS Fence.wide m)
    (ek : ∀ args w, (callFunc (ρK.f 10) args).run P w = .ok (.enter (ρK.f 10) args) w) (e9 : ∀ args w, (callFunc (ρS.f 9) args).run P w = .ok (.enter (ρS.f 9) args) w) (hfn : isFn P (ρS.f 6)) (hk : P.underlying (ρK.t 26) = some .string)
    (T : TypeId) (es : List (ByteArray × PV)) (hl : es.length ≤ 100000) (hsz : ∀ e ∈ es, e.1.size ≤ maxLen) (hnd : (es.map (·.1)).Nodup) :
    CallOk P (ρS.f 6) [.clo (ρK.f 10) [.ptr 1 0]] [.map (es.map fun e => (pvB e.1, e.2)), .cells T [.mref 0]]
      fun r st' => r = .pure (.list 1 es.isEmpty ((srtS (es.map (·.1))).map pvB)) ∧ st' = [.map (es.map fun e => (pvB e.1, e.2)), .cells T [.mref 0]] := by
  intro χ G w vs hgl hargs hst hG
  obtain ⟨u, r, rfl, hu, hr⟩ := hargs
  have hr : r = [] := hr
  subst hr
  obtain ⟨us, rfl, hus⟩ := hu
  obtain ⟨p, r, rfl, ⟨g1, hg1, rfl⟩, hr⟩ := hus
  have hr : r = [] := hr
  subst hr
  obtain ⟨g0, es', clock, hg0, hc0, hh0, hrm, hborn, hbn⟩ := hst 0 _ rfl
  obtain ⟨g1', cs, hg1', hc1, hh1, hcl⟩ := hst 1 _ rfl
  rw [hg1] at hg1'
  cases hg1'
  obtain ⟨u, r, rfl, _, ⟨g0', hg0', rfl⟩, hr⟩ := hcl
  have hr : r = [] := hr
  subst hr
  rw [hg0] at hg0'
  cases hg0'
  have hkeys := RM_keys hrm
  have hlen : es'.length = es.length := by have := congrArg List.length hkeys; simpa using this
  have hkey : ∀ x ∈ es', ∃ b : ByteArray, x.key = .string b ∧ b.size ≤ maxLen := fun x hx => by
    have : x.key ∈ es.map fun e => Value.string e.1 := by rw [← hkeys]; exact List.mem_map_of_mem hx
    obtain ⟨e, he, hxe⟩ := List.mem_map.1 this
    exact ⟨e.1, hxe.symm, hsz e he⟩
  have hrg : es'.map (Go.WideElems.rg P (ρK.t 26) anyR) = es.map fun e => (Lit.string e.1.data.toList, DataW.nil) := by
    have key : ∀ (l : List MapEntry) (m : List (ByteArray × PV)), l.map (·.key) = m.map (fun e => Value.string e.1) → (∀ e ∈ m, e.1.size ≤ maxLen) → l.map (Go.WideElems.rg P (ρK.t 26) anyR) = m.map fun e => (Lit.string e.1.data.toList, DataW.nil) := by
      intro l
      induction l with
      | nil => intro m h _; cases m <;> simp at h ⊢
      | cons x l ih =>
        intro m h hm
        cases m with
        | nil => simp at h
        | cons e m =>
          simp only [List.map_cons, List.cons.injEq] at h ⊢
          refine ⟨?_, ih m h.2 fun e' he' => hm e' (by simp [he'])⟩
          unfold Go.WideElems.rg
          rw [rd_key' hk h.1 (hm e (by simp))]
          rfl
    exact key es' es hkeys hsz
  have hown : w.ownsMap P (ρK.t 26) anyR g0 es.length (.map ((es'.map (Go.WideElems.rg P (ρK.t 26) anyR)).foldr DataW.insert [])) := by
    refine ⟨es'.toArray, clock, hh0, ⟨by simp; unfold maxLen; omega, ⟨fun x hx => hborn x (by simpa using hx), by simpa using hbn, ?_⟩, fun x hx => ?_⟩, by simp; omega, rfl⟩
    · show (es'.map (·.key)).Nodup
      rw [hkeys]
      refine List.pairwise_map.2 ((List.pairwise_map.1 hnd).imp fun {a b} h e => h ?_)
      simpa using e
    · obtain ⟨b, hb1, hb2⟩ := hkey x (by simpa using hx)
      exact ⟨_, rd_key' hk hb1 hb2⟩
  obtain ⟨D0, hD⟩ : ∃ D0, D0 = (DataW.map ((es'.map (Go.WideElems.rg P (ρK.t 26) anyR)).foldr DataW.insert []) : DataW Unit) := ⟨_, rfl⟩
  rw [← hD] at hown
  have hperm : (strKeys D0).Perm ((es.map (·.1)).map (·.data.toList)) := by
    rw [hD, hrg]
    show (List.map (fun p : Lit × DataW Unit => strOf p.1) _).Perm _
    refine ((sorted_perm _).map _).trans ?_
    rw [List.map_map, List.map_map]
    exact .refl _
  have hsize : Maps.size D0 = es.length := by
    rw [hD, hrg, Maps.size_eq, (sorted_perm _).length_eq, List.length_map]
  have hb1 : g1 < w.heap.size := (Array.getElem?_eq_some_iff.1 hh1).1
  have hcell : w.cell? ⟨g1, 0, none⟩ = some (.map (some g0)) := by simp [World.cell?, hh1]
  have hseq := AnyZ.keys_gives LK Fence.wide 2 trivial rfl (by omega) g1 g0 es.length D0 w hb1 hcell hown
  have cS := AnyZ.sorted_in LS Fence.wide 5 trivial trivial trivial trivial rfl (by omega) (hs _) e9 (ρK.f 10) #[.pointer (some ⟨g1, 0, none⟩)] trivial ek _ _ (by rw [hsize]; unfold maxLen; omega) (by rw [hsize]; omega) w hseq
  refine .inl ⟨hfn, ?_⟩
  refine ((callsIn_wide (n := 5)).1 cS).mono ?_
  rintro e w' ⟨v, ss, rfl, hS, hrow, hnil, hbel⟩
  have hsrt : ss.mergeSort (fun x y => decide (x ≤ y)) = (srtS (es.map (·.1))).map (·.data.toList) := by
    rw [srtS_data]
    exact mergeSort_of_perm (hS.trans hperm)
  have hsl : ss.length = es.length := by rw [(hS.trans hperm).length_eq]; simp
  rw [hsrt] at hrow
  have hlen2 : ((srtS (es.map (·.1))).map pvB).length = es.length := by rw [List.length_map, (srtS_perm _).length_eq, List.length_map]
  have hkeep : Keep χ w (fun b => if b < w.heap.size then χ b else .imm) w' := fun b hb hi => ⟨by show (if b < w.heap.size then χ b else Color.imm) = _; rw [if_pos hb]; exact hi, hbel.block b hb⟩
  refine ⟨_, v, _, fun b => if b < w.heap.size then χ b else .imm, G, ⟨rfl, rfl⟩, rfl, ?_, ?_, ?_, Nat.le_refl _, fun o ho => ⟨fun g h => h, fun n hd hh => ⟨n, hd, hh, Nat.le_refl _, fun _ => rfl⟩⟩, hG⟩
  · show RP _ w' (.list 1 es.isEmpty _) v
    rcases hrow.2 with ⟨rfl, h0⟩ | ⟨g, c, cur, rfl, hbase, hb, q1, q2, q3, q4⟩
    · have h0' : es = [] := List.eq_nil_of_length_eq_zero (by omega)
      subst h0'
      have e0 : (srtS (([] : List (ByteArray × PV)).map (·.1))).map pvB = [] := List.eq_nil_of_length_eq_zero hlen2
      rw [e0]
      exact ⟨none, 0, [], rfl, Nat.le_refl _, Nat.zero_le _, fun _ => rfl, by simp, rfl, fun k u hu => by simp at hu⟩
    · have hne : ss ≠ [] := fun e => by have := hnil.2 e; cases this
      have hes : es ≠ [] := fun e => hne (List.eq_nil_of_length_eq_zero (by rw [hsl, e]; rfl))
      have hemp : es.isEmpty = false := by cases es with | nil => exact absurd rfl hes | cons _ _ => rfl
      rw [hemp]
      refine ⟨some ⟨g, 0, none⟩, c, ((srtS (es.map (·.1))).map (·.data.toList)).map encStr, by rw [hlen2, hsl], by rw [hlen2, ← hsl]; exact q1, q2, fun e => (by cases e), by simp, RF_of_strs _, ?_⟩
      intro k u hk'
      refine ⟨_, rfl, by show (if g < w.heap.size then χ g else Color.imm) = .imm; rw [if_neg (by omega)], ?_⟩
      rw [← q4] at hk'
      have hk2 : cur[k]? = some u := by
        rw [List.getElem?_take] at hk'
        split at hk'
        · simpa using hk'
        · cases hk'
      exact cell_of_heap hb hk2
  · intro o ob ho
    exact RO.mono hkeep (GGo.refl _) rfl (fun b hlt hc => ⟨by show (if b < w.heap.size then χ b else Color.imm) = _; rw [if_pos hlt]; exact hc, hbel.block b hlt⟩) (hst o ob ho)
  · exact ⟨hbel.os, hbel.tape, hbel.output, hbel.size, fun b hb hi => ⟨by show (if b < w.heap.size then χ b else Color.imm) = _; rw [if_pos hb]; exact hi, hbel.block b hb⟩, fun b hb hi => ⟨by show (if b < w.heap.size then χ b else Color.imm) = _; rw [if_pos hb]; exact hi, hbel.block b hb⟩⟩
end Go.Proofs.YtafngalmkblipaaGreatDoor
/- law10: the order of rows, exactly: what the sort's comparison does. -/
set_option linter.all false
set_option maxHeartbeats 4000000
set_option maxRecDepth 100000
namespace Go.Proofs.YtafngalmkblipaaGreatDoor
open Go Go.RowKit Go.Proofs Go.Sy

theorem nanS (s : ByteArray) (W : World) : Calls Tryz.prog 102 #[.string s] W fun e w' => e = .returned (.bool false) ∧ w' = W := by
  go_enter Tryz.func102, Tryz.ntmps102
  go_wp2
  go_ret
  exact ⟨rfl, rfl⟩
theorem nanI (n : Int) (W : World) : Calls Tryz.prog 103 #[.int .i64 n] W fun e w' => e = .returned (.bool false) ∧ w' = W := by
  go_enter Tryz.func103, Tryz.ntmps103
  go_wp2
  go_ret
  exact ⟨rfl, rfl⟩

def cmpBA (a b : ByteArray) : Int := if lsBA a b then -1 else if eqBA a b then 0 else 1
def cmpI (a b : Int) : Int := if a < b then -1 else if b < a then 1 else 0
def orI (a b : Int) : Int := if a = 0 then b else a
theorem compareS (a b : ByteArray) (W : World) : Calls Tryz.prog 81 #[.string a, .string b] W fun e w' => e = .returned (.int .i64 (cmpBA a b)) ∧ w' = W := by
  unfold cmpBA lsBA eqBA
  cases h1 : Op.bytesLess a.toList b.toList <;> cases h2 : (a.toList == b.toList)
  all_goals
    go_enter Tryz.func81, Tryz.ntmps81
    go_wp2_with (go_at_call 102; refine (nanS _ _).mono ?_; rintro e w' ⟨rfl, rfl⟩)
    go_ret
    exact ⟨rfl, rfl⟩
theorem compareI (a b : Int) (W : World) : Calls Tryz.prog 82 #[.int .i64 a, .int .i64 b] W fun e w' => e = .returned (.int .i64 (cmpI a b)) ∧ w' = W := by
  obtain ⟨r, hr⟩ : ∃ r, r = cmpI a b := ⟨_, rfl⟩
  rw [← hr]
  unfold cmpI at hr
  go_enter Tryz.func82, Tryz.ntmps82
  go_wp2_with (go_at_call 103; refine (nanI _ _).mono ?_; rintro e w' ⟨rfl, rfl⟩)
  · go_ret
    rw [if_pos (by assumption)] at hr
    subst hr
    exact ⟨rfl, rfl⟩
  · go_ret
    rw [if_neg (by omega), if_pos (by omega)] at hr
    subst hr
    exact ⟨rfl, rfl⟩
  · go_ret
    rw [if_neg (by omega), if_neg (by omega)] at hr
    subst hr
    exact ⟨rfl, rfl⟩
theorem orTwo (a b : Int) (g : Nat) (W : World) (h0 : W.cell? ⟨g, 0, none⟩ = some (.int .i64 a)) (h1 : W.cell? ⟨g, 1, none⟩ = some (.int .i64 b)) :
    Calls Tryz.prog 80 #[.slice (some ⟨g, 0, none⟩) 2 2] W fun e w' => e = .returned (.int .i64 (orI a b)) ∧ w' = W := by
  obtain ⟨r, hr⟩ : ∃ r, r = orI a b := ⟨_, rfl⟩
  rw [← hr]
  unfold orI at hr
  by_cases ha : a = 0
  · rw [if_pos ha] at hr
    subst ha
    by_cases hb : b = 0
    · subst hb
      go_enter Tryz.func80, Tryz.ntmps80
      go_wp2
      refine wp_loop_rounds 3 ?_
      rw [rounds_succ]
      go_wp2
      rw [rounds_succ]
      go_wp2
      rw [rounds_succ]
      go_wp2
      go_ret
      subst hr
      exact ⟨rfl, rfl⟩
    · go_enter Tryz.func80, Tryz.ntmps80
      go_wp2
      refine wp_loop_rounds 3 ?_
      rw [rounds_succ]
      go_wp2
      rw [rounds_succ]
      go_wp2
      go_ret
      subst hr
      exact ⟨rfl, rfl⟩
  · rw [if_neg ha] at hr
    go_enter Tryz.func80, Tryz.ntmps80
    go_wp2
    refine wp_loop_rounds 3 ?_
    rw [rounds_succ]
    go_wp2
    go_ret
    subst hr
    exact ⟨rfl, rfl⟩

def cfR (x y : Rw) : Int := orI (cmpBA x.t y.t) (cmpI x.k y.k)
abbrev enR (x : Rw) : List Value := [.string x.t, .int .i64 x.k, .string x.x]
theorem closureR (x y : Rw) (W : World) : Calls Tryz.prog 79 #[.agg (enR x).toArray, .agg (enR y).toArray] W fun e w' => e = .returned (.int .i64 (cfR x y)) ∧ ∃ q os, w' = Sort.grow (W.drewN q) os := by
  unfold cfR
  have cA := compareS x.t y.t
  have cB := compareI x.k y.k
  generalize cmpBA x.t y.t = A at *
  generalize cmpI x.k y.k = B at *
  go_enter Tryz.func79, Tryz.ntmps79
  go_wp2
  have c0 : ∀ j, ((W.alloc (Obj.cells (enR x).toArray 44)).alloc (Obj.cells (enR y).toArray 44)).cell? ⟨W.heap.size, j, none⟩ = (enR x)[j]? := fun j => by
    unfold World.cell?
    have : ((W.alloc (Obj.cells (enR x).toArray 44)).alloc (Obj.cells (enR y).toArray 44)).heap[W.heap.size]? = some (Obj.cells (enR x).toArray 44) := by rw [Sort.alloc_eq_grow, Sort.alloc_eq_grow, Sort.grow_grow]; simp [Sort.grow]
    rw [this]
    simp
  have c1 : ∀ j, ((W.alloc (Obj.cells (enR x).toArray 44)).alloc (Obj.cells (enR y).toArray 44)).cell? ⟨W.heap.size + 1, j, none⟩ = (enR y)[j]? := fun j => by
    unfold World.cell?
    have : ((W.alloc (Obj.cells (enR x).toArray 44)).alloc (Obj.cells (enR y).toArray 44)).heap[W.heap.size + 1]? = some (Obj.cells (enR y).toArray 44) := by rw [Sort.alloc_eq_grow, Sort.alloc_eq_grow, Sort.grow_grow]; simp [Sort.grow]
    rw [this]
    simp
  have hgr : (W.alloc (Obj.cells (enR x).toArray 44)).alloc (Obj.cells (enR y).toArray 44) = Sort.grow W #[Obj.cells (enR x).toArray 44, Obj.cells (enR y).toArray 44] := by
    rw [Sort.alloc_eq_grow, Sort.alloc_eq_grow, Sort.grow_grow]; rfl
  generalize (W.alloc (Obj.cells (enR x).toArray 44)).alloc (Obj.cells (enR y).toArray 44) = W1 at *
  refine wp_region_still_tail 10 (by kernel_rfl) (by kernel_rfl) ?_
  change wpStill _ _ W1.drew (fun a' => wpList _ _ _ _ a' W1.drew) _ _
  have d00 : W1.drew.cell? ⟨W.heap.size, 0, none⟩ = some (.string x.t) := c0 0
  have d01 : W1.drew.cell? ⟨W.heap.size, 1, none⟩ = some (.int .i64 x.k) := c0 1
  have d10 : W1.drew.cell? ⟨W.heap.size + 1, 0, none⟩ = some (.string y.t) := c1 0
  have d11 : W1.drew.cell? ⟨W.heap.size + 1, 1, none⟩ = some (.int .i64 y.k) := c1 1
  have hgr2 : ∃ q os, W1.drew = Sort.grow (W.drewN q) os := ⟨1, #[Obj.cells (enR x).toArray 44, Obj.cells (enR y).toArray 44], by rw [hgr]; rfl⟩
  clear c0 c1 hgr
  generalize W1.drew = W2 at *
  simp only [List.take_succ_cons, List.take_zero, List.drop_succ_cons, List.drop_zero]
  repeat still_step
  still_call (cA _)
  repeat still_step
  still_call (cB _)
  repeat still_step
  refine wpStill_nil ?_
  clear d00 d01 d10 d11 cA cB
  go_wp2_with (go_at_call 80; refine (orTwo A B _ _ ?c0 ?c1).mono ?_)
  case c0 => simp [Addr.add]
  case c1 => simp [Addr.add]
  rintro e w' ⟨rfl, rfl⟩
  go_wp2
  go_ret
  obtain ⟨q, os, rfl⟩ := hgr2
  exact ⟨rfl, q, _, by rw [Sort.alloc_eq_grow, Sort.grow_grow]⟩
instance : Inhabited Rw := ⟨⟨noS, 0, noS⟩⟩

/-! ## The order -/
/-- A row comes ahead of another one. -/
def ltR (x y : Rw) : Bool := lsR y x
theorem lsBA_iff {a b : ByteArray} : lsBA a b = true ↔ bl a < bl b := by
  unfold lsBA
  rw [ByteArray.toList_eq, ByteArray.toList_eq, bytesLess_lt]
  exact decide_eq_true_iff
theorem ltR_iff {x y : Rw} : ltR x y = true ↔ bl x.t < bl y.t ∨ (x.t = y.t ∧ x.k < y.k) := by
  unfold ltR lsR
  rw [Bool.or_eq_true, Bool.and_eq_true, lsBA_iff, eqBA_iff, decide_eq_true_iff]
theorem bl_inj {a b : ByteArray} (h : bl a = bl b) : a = b := BA_ext h
theorem ltR_trans {x y z : Rw} (h : ltR x y = true) (g : ltR y z = true) : ltR x z = true := by
  rw [ltR_iff] at *
  rcases h with h | ⟨h, h'⟩ <;> rcases g with g | ⟨g, g'⟩
  · exact .inl (List.lt_trans h g)
  · rw [← g]; exact .inl h
  · rw [h]; exact .inl g
  · exact .inr ⟨h.trans g, by omega⟩
theorem ltR_irrefl (x : Rw) : ltR x x = false := by
  rw [Bool.eq_false_iff]
  intro h
  rcases ltR_iff.1 h with h | ⟨_, h⟩
  · exact List.lt_irrefl _ h
  · omega
theorem ltR_total {x y : Rw} (h : ltR x y = false) (g : ltR y x = false) : x.t = y.t ∧ x.k = y.k := by
  have h : ¬ _ := fun e => by rw [ltR_iff.2 e] at h; cases h
  have g : ¬ _ := fun e => by rw [ltR_iff.2 e] at g; cases g
  have h1 : ¬ bl x.t < bl y.t := fun e => h (.inl e)
  have h2 : ¬ bl y.t < bl x.t := fun e => g (.inl e)
  have ht : x.t = y.t := bl_inj (List.le_antisymm (List.not_lt.1 h2) (List.not_lt.1 h1))
  refine ⟨ht, ?_⟩
  have h3 : ¬ x.k < y.k := fun e => h (.inr ⟨ht, e⟩)
  have h4 : ¬ y.k < x.k := fun e => g (.inr ⟨ht.symm, e⟩)
  omega
theorem ltR_of_key {x y z : Rw} (ht : x.t = y.t) (hk : x.k = y.k) : ltR x z = ltR y z := by unfold ltR lsR; rw [ht, hk]
theorem ltR_of_key' {x y z : Rw} (ht : x.t = y.t) (hk : x.k = y.k) : ltR z x = ltR z y := by unfold ltR lsR; rw [ht, hk]
theorem ltR_cases (x y : Rw) : ltR x y = true ∨ ltR y x = true ∨ (x.t = y.t ∧ x.k = y.k) := by
  cases h : ltR x y with
  | true => exact .inl rfl
  | false => cases g : ltR y x with
    | true => exact .inr (.inl rfl)
    | false => exact .inr (.inr (ltR_total h g))
theorem ltR_ntrans {x y z : Rw} (h : ltR x y = false) (g : ltR y z = false) : ltR x z = false := by
  cases hz : ltR x z with
  | false => rfl
  | true =>
    rcases ltR_cases x y with h1 | h1 | ⟨h1, h2⟩
    · rw [h1] at h; cases h
    · have := ltR_trans h1 hz
      rw [this] at g; cases g
    · rw [ltR_of_key h1 h2] at hz
      rw [hz] at g; cases g
/-- Rows in order. -/
def srtR (l : List Rw) : List Rw := l.mergeSort fun x y => !ltR y x
theorem srtR_perm (l : List Rw) : (srtR l).Perm l := List.mergeSort_perm l _
theorem srtR_le (l : List Rw) : (srtR l).Pairwise fun x y => ltR y x = false := by
  have := List.pairwise_mergeSort (le := fun x y => !ltR y x) (fun a b c h g => by
    simp only [Bool.not_eq_true'] at *
    exact ltR_ntrans g h) (fun a b => by
    cases h : ltR b a with
    | false => rfl
    | true => cases g : ltR a b with
      | false => rfl
      | true => have := ltR_trans h g; rw [ltR_irrefl] at this; cases this) l
  exact this.imp fun h => by simpa using h
/-- There is one order where places are told once. -/
theorem srtR_eq {l l' : List Rw} (hk : ∀ a b, a ∈ l → b ∈ l → a.t = b.t → a.k = b.k → a = b) (hp : l'.Perm l) (hs : l'.Pairwise fun x y => ltR y x = false) : l' = srtR l := by
  refine List.Perm.eq_of_pairwise (le := fun x y => ltR y x = false) (fun a b ha hb h1 h2 => ?_) hs (srtR_le l) (hp.trans (srtR_perm l).symm)
  obtain ⟨h3, h4⟩ := ltR_total h2 h1
  exact hk a b (hp.mem_iff.1 ha) ((srtR_perm l).mem_iff.1 hb) h3 h4

def SortRows (f : FuncId) : Prop := ∀ (v : Nat) (nl : Bool) (l : List Rw), l.length ≤ 100000 → (∀ a b, a ∈ l → b ∈ l → a.t = b.t → a.k = b.k → a = b) →
  CallOk Tryz.prog f [.vref 0 v, .pure (.val (.func (.func 79) #[] #[]))] [.vec v 44 3 nl (l.map pvR)] fun r st' => r = .tup [] ∧ st' = [.vec v 44 3 nl ((srtR l).map pvR)]
end Go.Proofs.YtafngalmkblipaaGreatDoor
/- law10: a book's rules in order. -/
set_option linter.all false
set_option maxHeartbeats 4000000
set_option maxRecDepth 100000
namespace Go.Proofs.YtafngalmkblipaaGreatDoor
open Go Go.RowKit Go.Sy Go.Proofs

abbrev rowOf (e : Spot × ByteArray) : Rw := ⟨e.1.1, e.1.2, e.2⟩
def ordB (b : Bst) : List Rw := srtR (b.rules.map rowOf)
theorem keys_once {l : List (Spot × ByteArray)} (hnd : (l.map (·.1)).Nodup) : ∀ a b, a ∈ l.map rowOf → b ∈ l.map rowOf → a.t = b.t → a.k = b.k → a = b := by
  intro a b ha hb h1 h2
  obtain ⟨x, hx, rfl⟩ := List.mem_map.1 ha
  obtain ⟨y, hy, rfl⟩ := List.mem_map.1 hb
  have hxy : x.1 = y.1 := Prod.ext h1 h2
  have : x = y := by
    have hp := List.pairwise_map.1 hnd
    obtain ⟨i, hi, rfl⟩ := List.getElem_of_mem hx
    obtain ⟨j, hj, rfl⟩ := List.getElem_of_mem hy
    rcases Nat.lt_trichotomy i j with h | h | h
    · exact absurd hxy (List.pairwise_iff_getElem.1 hp i j hi hj h)
    · subst h; rfl
    · exact absurd hxy.symm (List.pairwise_iff_getElem.1 hp j i hj hi h)
  rw [this]
abbrev stC (b : BkP) : List SV := [.vref 0 b.vr, .mref 1, .mref 2, .vref 3 b.vp, .mref 4, .mref 5]
theorem ordered_ok (hso : SortRows 78) (b : Bst) (hnd : (b.rules.map (·.1)).Nodup) (hl : b.rules.length ≤ 1000) :
    CallOk Tryz.prog 46 [stA b.k] (bkT b.k) fun r st' => ∃ nl, r = .vref 8 0 ∧ st' = bkT b.k ++ [.cells 65 (stC b.k), .gone, .vec 0 44 3 nl ((ordB b).map pvR)] := by
  refine callOk_of false 9 Tryz.func46 rfl rfl (by show 6 ≤ 9; decide) ?_
  conv => whnf
  repeat (first | (refine rest_vc ?_; conv => whnf) | (refine ⟨by decide, ?_⟩; conv => whnf))
  refine hand_ghost 3 44 3 rfl ?_
  refine awp_loop (n := 26) (α := List (Spot × ByteArray) × List (Spot × ByteArray) × Option (PV × PV)) (fun x => (x.2.1 ++ x.1).Perm b.rules)
    (fun x => [(3, .vref 8 0), (8, .ptr 7 0)])
    (fun x => [.vec b.vr 44 3 b.rows.isEmpty (b.rows.map pvR), .map (enS b.asked), .gone, .vec b.vp 100 5 b.prefs.isEmpty (b.prefs.map pvF), .map (enO b.off), .map (enN b.names), .cells 65 (stC b.k),
      .iter 2 (enS b.rules) (enS x.1) x.2.2, .vec 0 44 3 (x.2.1.map rowOf).isEmpty ((x.2.1.map rowOf).map pvR)]) (fun x => x.1.length) (b.rules, [], none) (fun _ => 0)
    (by simp) rfl ⟨rfl, rfl, trivial⟩ rfl (fun _ _ => rfl) (fun _ => ⟨(by show 6 ≤ 9; omega), rfl, rfl⟩) ?_
  rintro ⟨left, done, cur⟩ hp
  conv => whnf
  repeat (first | (refine rest_vc ?_; conv => whnf) | (refine ⟨by decide, ?_⟩; conv => whnf))
  have hp : (done ++ left).Perm b.rules := hp
  have hdl : done.length + left.length = b.rules.length := by rw [← List.length_append, hp.length_eq]
  refine ⟨fun h0 => ?_, fun l1 e l2 he => ?_⟩
  · have h0 : left = [] := List.map_eq_nil_iff.1 h0
    subst h0
    conv => whnf
    repeat (refine ⟨by decide, ?_⟩; conv => whnf)
    refine rest_unrange 7 rfl rfl ?_
    refine rest_vc ?_
    conv => whnf
    repeat (first | (refine rest_vc ?_; conv => whnf) | (refine ⟨by decide, ?_⟩; conv => whnf))
    have hq1 : (done.map rowOf).length ≤ 100000 := by rw [List.length_map]; simp only [List.length_nil] at hdl; omega
    have hq2 : ∀ a c, a ∈ done.map rowOf → c ∈ done.map rowOf → a.t = c.t → a.k = c.k → a = c := by
      intro a c ha hc
      rw [List.append_nil] at hp
      exact keys_once hnd a c ((hp.map rowOf).mem_iff.1 ha) ((hp.map rowOf).mem_iff.1 hc)
    refine CallIn.o [8] (hso _ _ (done.map rowOf) hq1 hq2) (k := ?_)
    rintro r st' ⟨rfl, rfl⟩
    conv => whnf
    repeat (first | (refine rest_vc ?_; conv => whnf) | (refine ⟨by decide, ?_⟩; conv => whnf))
    have hsd : srtR (done.map rowOf) = ordB b := by
      rw [List.append_nil] at hp
      exact srtR_eq (keys_once hnd) ((srtR_perm _).trans (hp.map rowOf)) (srtR_le _)
    rw [hsd]
    exact ⟨_, rfl, rfl⟩
  · obtain ⟨a1, a2, rfl, rfl, h2⟩ := List.map_eq_append_iff.1 he
    obtain ⟨x, a3, rfl, rfl, rfl⟩ := List.map_eq_cons_iff.1 h2
    conv => whnf
    repeat (first | (refine rest_vc ?_; conv => whnf) | (refine ⟨by decide, ?_⟩; conv => whnf))
    have hdn : ((done.map rowOf).map pvR).length ≤ 1000 := by rw [List.length_map, List.length_map]; omega
    refine ⟨by exact Nat.le_trans (Nat.mul_le_mul_right _ (Nat.add_le_add_right hdn 1)) (by decide), ?_⟩
    conv => whnf
    repeat (first | (refine rest_vc ?_; conv => whnf) | (refine ⟨by decide, ?_⟩; conv => whnf))
    refine ⟨(a1 ++ a3, done ++ [x], some (pvSp x.1, pvB x.2)), fun o => if o = 8 then 1 else 0, ?_, ?_, rfl, ⟨rfl, rfl, trivial⟩, ?_, fun o ho => by have : o < 6 := ho; simp; omega⟩
    · show ((done ++ [x]) ++ (a1 ++ a3)).Perm b.rules
      refine List.Perm.trans ?_ hp
      rw [List.append_assoc]
      exact List.Perm.append_left _ (show ([x] ++ (a1 ++ a3)).Perm (a1 ++ x :: a3) from (List.perm_middle (a := x) (l₁ := a1) (l₂ := a3)).symm)
    · show (a1 ++ a3).length < (a1 ++ x :: a3).length
      simp
    · refine Eq.trans (b := upSt (fun o => if o = 8 then 1 else 0) 0 [.vec b.vr 44 3 b.rows.isEmpty (b.rows.map pvR), .map (enS b.asked), .gone, .vec b.vp 100 5 b.prefs.isEmpty (b.prefs.map pvF), .map (enO b.off), .map (enN b.names), .cells 65 (stC b.k),
        .iter 2 (enS b.rules) (enS a1 ++ enS a3) (some (pvSp x.1, pvB x.2)), .vec 0 44 3 ((done.map rowOf).isEmpty && [pvR (rowOf x)].isEmpty) ((done.map rowOf).map pvR ++ [pvR (rowOf x)])]) rfl ?_
      have e1 : ((done ++ [x]).map rowOf).map pvR = (done.map rowOf).map pvR ++ [pvR (rowOf x)] := by simp
      have e2 : ((done ++ [x]).map rowOf).isEmpty = ((done.map rowOf).isEmpty && [pvR (rowOf x)].isEmpty) := by cases done <;> rfl
      have e3 : enS (a1 ++ a3) = enS a1 ++ enS a3 := List.map_append ..
      show _ = upSt _ 0 [.vec b.vr 44 3 b.rows.isEmpty (b.rows.map pvR), .map (enS b.asked), .gone, .vec b.vp 100 5 b.prefs.isEmpty (b.prefs.map pvF), .map (enO b.off), .map (enN b.names), .cells 65 (stC b.k),
        .iter 2 (enS b.rules) (enS (a1 ++ a3)) (some (pvSp x.1, pvB x.2)), .vec 0 44 3 ((done ++ [x]).map rowOf).isEmpty (((done ++ [x]).map rowOf).map pvR)]
      rw [e1, e2, e3]
end Go.Proofs.YtafngalmkblipaaGreatDoor
/- law10: the keys of maps in order: off and names. -/
set_option linter.all false
set_option maxHeartbeats 4000000
set_option maxRecDepth 100000
namespace Go.Proofs
def YtafngalmkblipaaGreatDoor.keysO_ren : Go.Shelf.Ren := ⟨fun | 7 => 48 | 10 => 85 | n => n, fun | 23 => 62 | 26 => 9 | 3 => 4 | 28 => 103 | 0 => 0 | 27 => 102 | 33 => 119 | 4 => 4 | n => n, fun | n => n⟩
theorem YtafngalmkblipaaGreatDoor.keysO : Go.Proofs.SlLaysZ.n7 Tryz.prog YtafngalmkblipaaGreatDoor.keysO_ren := {
  mixed := by kernel_rfl
  f7 := ⟨Tryz.f48.name, by decide, Tryz.func48.trans (congrArg some (by kernel_rfl))⟩
  f10 := ⟨Tryz.f85.name, by decide, Tryz.func85.trans (congrArg some (by kernel_rfl))⟩
  t0 := Tryz.underlying0
  a0 := Tryz.isAgg0
  z0 := Tryz.sizeOf0
  v0 := Tryz.zeroValue0
  t4 := Tryz.underlying4
  a4 := Tryz.isAgg4
  z4 := Tryz.sizeOf4
  v4 := Tryz.zeroValue4
  t23 := Tryz.underlying62
  a23 := Tryz.isAgg62
  z23 := Tryz.sizeOf62
  v23 := Tryz.zeroValue62
  t26 := Tryz.underlying9
  a26 := Tryz.isAgg9
  z26 := Tryz.sizeOf9
  v26 := Tryz.zeroValue9
  t27 := Tryz.underlying102
  a27 := Tryz.isAgg102
  z27 := Tryz.sizeOf102
  v27 := Tryz.zeroValue102
  t28 := Tryz.underlying103
  a28 := Tryz.isAgg103
  z28 := Tryz.sizeOf103
  v28 := Tryz.zeroValue103
  t33 := Tryz.underlying119
  a33 := Tryz.isAgg119
  z33 := Tryz.sizeOf119
  v33 := Tryz.zeroValue119 }
def YtafngalmkblipaaGreatDoor.keysP_ren : Go.Shelf.Ren := ⟨fun | 7 => 49 | 10 => 86 | n => n, fun | 23 => 63 | 26 => 9 | 3 => 9 | 28 => 103 | 0 => 0 | 27 => 102 | 33 => 119 | 4 => 4 | n => n, fun | n => n⟩
theorem YtafngalmkblipaaGreatDoor.keysP : Go.Proofs.SlLaysZ.n7 Tryz.prog YtafngalmkblipaaGreatDoor.keysP_ren := {
  mixed := by kernel_rfl
  f7 := ⟨Tryz.f49.name, by decide, Tryz.func49.trans (congrArg some (by kernel_rfl))⟩
  f10 := ⟨Tryz.f86.name, by decide, Tryz.func86.trans (congrArg some (by kernel_rfl))⟩
  t0 := Tryz.underlying0
  a0 := Tryz.isAgg0
  z0 := Tryz.sizeOf0
  v0 := Tryz.zeroValue0
  t4 := Tryz.underlying4
  a4 := Tryz.isAgg4
  z4 := Tryz.sizeOf4
  v4 := Tryz.zeroValue4
  t23 := Tryz.underlying63
  a23 := Tryz.isAgg63
  z23 := Tryz.sizeOf63
  v23 := Tryz.zeroValue63
  t26 := Tryz.underlying9
  a26 := Tryz.isAgg9
  z26 := Tryz.sizeOf9
  v26 := Tryz.zeroValue9
  t27 := Tryz.underlying102
  a27 := Tryz.isAgg102
  z27 := Tryz.sizeOf102
  v27 := Tryz.zeroValue102
  t28 := Tryz.underlying103
  a28 := Tryz.isAgg103
  z28 := Tryz.sizeOf103
  v28 := Tryz.zeroValue103
  t33 := Tryz.underlying119
  a33 := Tryz.isAgg119
  z33 := Tryz.sizeOf119
  v33 := Tryz.zeroValue119 }
def YtafngalmkblipaaGreatDoor.sortedP_ren : Go.Shelf.Ren := ⟨fun | 6 => 47 | 8 => 83 | 9 => 84 | 11 => 104 | 13 => 101 | 12 => 105 | 23 => 133 | 24 => 134 | 14 => 135 | 15 => 136 | 16 => 137 | 17 => 138 | 18 => 139 | 19 => 140 | 20 => 141 | 21 => 142 | 22 => 143 | 25 => 167 | 26 => 163 | 27 => 164 | 28 => 168 | 29 => 169 | 30 => 102 | 31 => 181 | n => n, fun | 26 => 9 | 28 => 103 | 24 => 54 | 0 => 0 | 3 => 3 | 37 => 137 | 48 => 69 | 50 => 173 | 4 => 4 | 40 => 180 | 39 => 179 | 45 => 184 | 5 => 5 | 9 => 9 | 51 => 210 | 55 => 214 | 57 => 221 | 58 => 222 | 33 => 119 | n => n, fun | n => n⟩
theorem YtafngalmkblipaaGreatDoor.sortedP : Go.Proofs.SlLaysZ.n6 Tryz.prog YtafngalmkblipaaGreatDoor.sortedP_ren := {
  mixed := by kernel_rfl
  f6 := ⟨Tryz.f47.name, by decide, Tryz.func47.trans (congrArg some (by kernel_rfl))⟩
  f8 := ⟨Tryz.f83.name, by decide, Tryz.func83.trans (congrArg some (by kernel_rfl))⟩
  f11 := ⟨Tryz.f104.name, by decide, Tryz.func104.trans (congrArg some (by kernel_rfl))⟩
  t0 := Tryz.underlying0
  a0 := Tryz.isAgg0
  z0 := Tryz.sizeOf0
  v0 := Tryz.zeroValue0
  t24 := Tryz.underlying54
  a24 := Tryz.isAgg54
  z24 := Tryz.sizeOf54
  v24 := Tryz.zeroValue54
  t26 := Tryz.underlying9
  a26 := Tryz.isAgg9
  z26 := Tryz.sizeOf9
  v26 := Tryz.zeroValue9
  t28 := Tryz.underlying103
  a28 := Tryz.isAgg103
  z28 := Tryz.sizeOf103
  v28 := Tryz.zeroValue103
  i26 := by kernel_rfl }
def YtafngalmkblipaaGreatDoor.sortP_ren : Go.Shelf.Ren := ⟨fun | 6 => 84 | 8 => 101 | 9 => 105 | 19 => 133 | 20 => 134 | 21 => 135 | 22 => 136 | 23 => 137 | 24 => 138 | 25 => 139 | 26 => 140 | 27 => 141 | 28 => 142 | 29 => 143 | 36 => 167 | 31 => 163 | 32 => 164 | 37 => 168 | 38 => 169 | 39 => 102 | 41 => 181 | n => n, fun | 27 => 54 | 29 => 9 | 3 => 3 | 32 => 137 | 26 => 54 | 0 => 0 | 44 => 69 | 46 => 173 | 4 => 4 | 36 => 180 | 35 => 179 | 41 => 184 | 5 => 5 | 9 => 9 | 53 => 210 | 57 => 214 | 63 => 221 | 64 => 222 | n => n, fun | n => n⟩
theorem YtafngalmkblipaaGreatDoor.sortP : Go.Proofs.SlLaysM.n6 Tryz.prog YtafngalmkblipaaGreatDoor.sortP_ren := {
  mixed := by kernel_rfl
  f6 := ⟨Tryz.f84.name, by decide, Tryz.func84.trans (congrArg some (by kernel_rfl))⟩
  f8 := Tryz.func101.trans (congrArg some (by kernel_rfl))
  f9 := ⟨Tryz.f105.name, by decide, Tryz.func105.trans (congrArg some (by kernel_rfl))⟩
  f19 := Tryz.func133.trans (congrArg some (by kernel_rfl))
  f20 := Tryz.func134.trans (congrArg some (by kernel_rfl))
  f21 := ⟨Tryz.f135.name, by decide, Tryz.func135.trans (congrArg some (by kernel_rfl))⟩
  f22 := ⟨Tryz.f136.name, by decide, Tryz.func136.trans (congrArg some (by kernel_rfl))⟩
  f23 := ⟨Tryz.f137.name, by decide, Tryz.func137.trans (congrArg some (by kernel_rfl))⟩
  f24 := ⟨Tryz.f138.name, by decide, Tryz.func138.trans (congrArg some (by kernel_rfl))⟩
  f25 := ⟨Tryz.f139.name, by decide, Tryz.func139.trans (congrArg some (by kernel_rfl))⟩
  f26 := ⟨Tryz.f140.name, by decide, Tryz.func140.trans (congrArg some (by kernel_rfl))⟩
  f27 := ⟨Tryz.f141.name, by decide, Tryz.func141.trans (congrArg some (by kernel_rfl))⟩
  f28 := ⟨Tryz.f142.name, by decide, Tryz.func142.trans (congrArg some (by kernel_rfl))⟩
  f29 := ⟨Tryz.f143.name, by decide, Tryz.func143.trans (congrArg some (by kernel_rfl))⟩
  f31 := Tryz.func163.trans (congrArg some (by kernel_rfl))
  f32 := Tryz.func164.trans (congrArg some (by kernel_rfl))
  f36 := ⟨Tryz.f167.name, by decide, Tryz.func167.trans (congrArg some (by kernel_rfl))⟩
  f37 := ⟨Tryz.f168.name, by decide, Tryz.func168.trans (congrArg some (by kernel_rfl))⟩
  f38 := ⟨Tryz.f169.name, by decide, Tryz.func169.trans (congrArg some (by kernel_rfl))⟩
  f39 := ⟨Tryz.f102.name, by decide, Tryz.func102.trans (congrArg some (by kernel_rfl))⟩
  f41 := ⟨Tryz.f181.name, by decide, Tryz.func181.trans (congrArg some (by kernel_rfl))⟩
  t0 := Tryz.underlying0
  a0 := Tryz.isAgg0
  z0 := Tryz.sizeOf0
  v0 := Tryz.zeroValue0
  t3 := Tryz.underlying3
  a3 := Tryz.isAgg3
  z3 := Tryz.sizeOf3
  v3 := Tryz.zeroValue3
  t4 := Tryz.underlying4
  a4 := Tryz.isAgg4
  z4 := Tryz.sizeOf4
  v4 := Tryz.zeroValue4
  t5 := Tryz.underlying5
  a5 := Tryz.isAgg5
  z5 := Tryz.sizeOf5
  v5 := Tryz.zeroValue5
  t9 := Tryz.underlying9
  a9 := Tryz.isAgg9
  z9 := Tryz.sizeOf9
  v9 := Tryz.zeroValue9
  t26 := Tryz.underlying54
  a26 := Tryz.isAgg54
  z26 := Tryz.sizeOf54
  v26 := Tryz.zeroValue54
  t27 := Tryz.underlying54
  a27 := Tryz.isAgg54
  z27 := Tryz.sizeOf54
  v27 := Tryz.zeroValue54
  t29 := Tryz.underlying9
  a29 := Tryz.isAgg9
  z29 := Tryz.sizeOf9
  v29 := Tryz.zeroValue9
  t32 := Tryz.underlying137
  a32 := Tryz.isAgg137
  z32 := Tryz.sizeOf137
  v32 := Tryz.zeroValue137
  t35 := Tryz.underlying179
  a35 := Tryz.isAgg179
  z35 := Tryz.sizeOf179
  v35 := Tryz.zeroValue179
  t36 := Tryz.underlying180
  a36 := Tryz.isAgg180
  z36 := Tryz.sizeOf180
  v36 := Tryz.zeroValue180
  t41 := Tryz.underlying184
  a41 := Tryz.isAgg184
  z41 := Tryz.sizeOf184
  v41 := Tryz.zeroValue184
  t44 := Tryz.underlying69
  a44 := Tryz.isAgg69
  z44 := Tryz.sizeOf69
  v44 := Tryz.zeroValue69
  t46 := Tryz.underlying173
  a46 := Tryz.isAgg173
  z46 := Tryz.sizeOf173
  v46 := Tryz.zeroValue173
  t53 := Tryz.underlying210
  a53 := Tryz.isAgg210
  z53 := Tryz.sizeOf210
  v53 := Tryz.zeroValue210
  t57 := Tryz.underlying214
  a57 := Tryz.isAgg214
  z57 := Tryz.sizeOf214
  v57 := Tryz.zeroValue214
  t63 := Tryz.underlying221
  a63 := Tryz.isAgg221
  z63 := Tryz.sizeOf221
  v63 := Tryz.zeroValue221
  t64 := Tryz.underlying222
  a64 := Tryz.isAgg222
  z64 := Tryz.sizeOf222
  v64 := Tryz.zeroValue222 }
end Go.Proofs
namespace Go.Proofs.YtafngalmkblipaaGreatDoor
open Go Go.RowKit Go.Sy Go.Proofs Go.Shelf

theorem sortsP (m : Nat) : AnyZ.SortsIn Tryz.prog YtafngalmkblipaaGreatDoor.sortedP_ren Fence.wide m :=
  ⟨fun blk off cap ss W hH hblk hsz => callsIn_wide.2 (AnyM.slices_Sort_string YtafngalmkblipaaGreatDoor.sortP blk off cap ss W hH hblk hsz),
   fun p cap W => callsIn_wide.2 (AnyM.slices_Sort_string_none YtafngalmkblipaaGreatDoor.sortP p cap W)⟩
abbrev fSortedP : FuncId := 47
theorem sortedN_ok (T : TypeId) (es : List (ByteArray × ByteArray)) (hl : es.length ≤ 100000) (hsz : ∀ e ∈ es, e.1.size ≤ maxLen) (hnd : (es.map (·.1)).Nodup) :
    CallOk Tryz.prog fSortedP [.clo 86 [.ptr 1 0]] [.map (enN es), .cells T [.mref 0]]
      fun r st' => r = .pure (.list 1 es.isEmpty ((srtS (es.map (·.1))).map pvB)) ∧ st' = [.map (enN es), .cells T [.mref 0]] := by
  have h := sortedKeys_ok (ρK := YtafngalmkblipaaGreatDoor.keysP_ren) (ρS := YtafngalmkblipaaGreatDoor.sortedP_ren) { YtafngalmkblipaaGreatDoor.keysP with } YtafngalmkblipaaGreatDoor.sortedP sortsP (enters_of Tryz.func86 (by kernel_rfl) rfl) (enters_of Tryz.func84 (by kernel_rfl) rfl)
    ⟨_, Tryz.func47, rfl, by kernel_rfl⟩ Tryz.underlying9 T (es.map fun e => (e.1, pvB e.2)) (by rw [List.length_map]; exact hl) (fun e he => by obtain ⟨e', he', rfl⟩ := List.mem_map.1 he; exact hsz e' he') (by rw [List.map_map]; exact hnd)
  have e1 : (es.map fun e => (e.1, pvB e.2)).map (fun e => (pvB e.1, e.2)) = enN es := by rw [List.map_map]; rfl
  have e2 : (es.map fun e => (e.1, pvB e.2)).map (·.1) = es.map (·.1) := by rw [List.map_map]; rfl
  have e3 : (es.map fun e => (e.1, pvB e.2)).isEmpty = es.isEmpty := by cases es <;> rfl
  rw [e1, e2, e3] at h
  exact h
theorem keysN_ok (es : List (PV × PV)) : CallOk Tryz.prog 49 [.mref 0] [.map es] fun r st' => r = .clo 86 [.ptr 1 0] ∧ st' = [.map es, .cells 63 [.mref 0]] := by
  refine callOk_of false 2 Tryz.func49 rfl (by kernel_rfl) (by show 1 ≤ 2; decide) ?_
  conv => whnf
  repeat (first | (refine rest_vc ?_; conv => whnf) | (refine ⟨by decide, ?_⟩; conv => whnf))
  exact ⟨rfl, rfl⟩
theorem sortedO_ok (T : TypeId) (es : List (ByteArray × Unit)) (hl : es.length ≤ 100000) (hsz : ∀ e ∈ es, e.1.size ≤ maxLen) (hnd : (es.map (·.1)).Nodup) :
    CallOk Tryz.prog fSortedP [.clo 85 [.ptr 1 0]] [.map (enO es), .cells T [.mref 0]]
      fun r st' => r = .pure (.list 1 es.isEmpty ((srtS (es.map (·.1))).map pvB)) ∧ st' = [.map (enO es), .cells T [.mref 0]] := by
  have h := sortedKeys_ok (ρK := YtafngalmkblipaaGreatDoor.keysO_ren) (ρS := YtafngalmkblipaaGreatDoor.sortedP_ren) { YtafngalmkblipaaGreatDoor.keysO with } YtafngalmkblipaaGreatDoor.sortedP sortsP (enters_of Tryz.func85 (by kernel_rfl) rfl) (enters_of Tryz.func84 (by kernel_rfl) rfl)
    ⟨_, Tryz.func47, rfl, by kernel_rfl⟩ Tryz.underlying9 T (es.map fun e => (e.1, PV.val (.bool true))) (by rw [List.length_map]; exact hl) (fun e he => by obtain ⟨e', he', rfl⟩ := List.mem_map.1 he; exact hsz e' he') (by rw [List.map_map]; exact hnd)
  have e1 : (es.map fun e => (e.1, PV.val (.bool true))).map (fun e => (pvB e.1, e.2)) = enO es := by rw [List.map_map]; rfl
  have e2 : (es.map fun e => (e.1, PV.val (.bool true))).map (·.1) = es.map (·.1) := by rw [List.map_map]; rfl
  have e3 : (es.map fun e => (e.1, PV.val (.bool true))).isEmpty = es.isEmpty := by cases es <;> rfl
  rw [e1, e2, e3] at h
  exact h
theorem keysO_ok (es : List (PV × PV)) : CallOk Tryz.prog 48 [.mref 0] [.map es] fun r st' => r = .clo 85 [.ptr 1 0] ∧ st' = [.map es, .cells 62 [.mref 0]] := by
  refine callOk_of false 2 Tryz.func48 rfl (by kernel_rfl) (by show 1 ≤ 2; decide) ?_
  conv => whnf
  repeat (first | (refine rest_vc ?_; conv => whnf) | (refine ⟨by decide, ?_⟩; conv => whnf))
  exact ⟨rfl, rfl⟩
end Go.Proofs.YtafngalmkblipaaGreatDoor
/- law10: the settings of both books. -/
set_option linter.all false
set_option maxHeartbeats 4000000
set_option maxRecDepth 100000
namespace Go.Proofs.YtafngalmkblipaaGreatDoor
open Go Go.RowKit Go.Sy Go.Proofs

def pvP (p : Pf) : PV := .agg [.val (.string p.n), .val (.int .i64 p.v)]
abbrev stg (n1 n2 n3 : Bool) (rows : List Rw) (prefs : List Pf) (off : List ByteArray) : SV := .pure (.agg [.list 3 n1 (rows.map pvR), .list 2 n2 (prefs.map pvP), .list 1 n3 (off.map pvB)])
def setRows (b : Bst) : List Rw := (ordB b ++ b.rows).take 60
def offB (b : Bst) : List ByteArray := srtS (b.off.map (·.1))
def rowsPV (b : Bst) (nl : Bool) : PV := .list 3 (nl && (b.rows.map pvR).isEmpty) ((((ordB b).map pvR ++ b.rows.map pvR).drop 0).take ((min (((ordB b).map pvR ++ b.rows.map pvR).length : Int) 60).toNat - 0))
def offPV (b : Bst) : PV := .list 1 b.off.isEmpty ((offB b).map pvB)
theorem rowsPV_eq (b : Bst) (nl : Bool) : rowsPV b nl = .list 3 (nl && (b.rows.map pvR).isEmpty) ((setRows b).map pvR) := by
  unfold rowsPV setRows
  rw [List.map_take, List.map_append, List.drop_zero]
  congr 1
  by_cases h : ((ordB b).map pvR ++ b.rows.map pvR).length ≤ 60
  · rw [List.take_of_length_le (by omega), List.take_of_length_le h]
  · have : (min (((ordB b).map pvR ++ b.rows.map pvR).length : Int) 60).toNat - 0 = 60 := by omega
    rw [this]
theorem Setting_ok (hso : SortRows 78) (b : Bst) (hnd : (b.rules.map (·.1)).Nodup) (hl : b.rules.length ≤ 1000) (hr : b.rows.length ≤ 1000) (hp : b.prefs.length ≤ 1000)
    (ho : b.off.length ≤ 1000) (hos : ∀ e ∈ b.off, e.1.size ≤ 1000000) (hon : (b.off.map (·.1)).Nodup) :
    CallOk Tryz.prog 22 [.ptr 0 0] (bs b) fun r st' => (∃ n1 n2 n3, r = stg n1 n2 n3 (setRows b) b.prefs (offB b)) ∧ st' = bs b := by
  refine callOkD_of true 7 Tryz.func22 rfl rfl (Nat.le_refl _) ?_
  refine handD_region ?_
  conv => whnf
  refine handD_region ?_
  conv => whnf
  refine CallIn.o [0, 1, 2, 3, 4, 5, 6] (enter_ok b.k) (k := ?_)
  rintro r st' ⟨rfl, rfl⟩
  conv => whnf
  refine handD_defer (pre := [_]) rfl rfl rfl rfl rfl rfl rfl ?_
  conv => whnf
  repeat (first | (refine rest_vc ?_; conv => whnf) | (refine ⟨by decide, ?_⟩; conv => whnf))
  refine ⟨_, rfl, rfl, ?_⟩
  refine rest_vc ?_
  conv => whnf
  repeat (first | (refine rest_vc ?_; conv => whnf) | (refine ⟨by decide, ?_⟩; conv => whnf))
  refine CallIn.o [5] (keysO_ok (enO b.off)) (k := ?_)
  rintro r st' ⟨rfl, rfl⟩
  conv => whnf
  repeat (first | (refine rest_vc ?_; conv => whnf) | (refine ⟨by decide, ?_⟩; conv => whnf))
  refine CallIn.o [5, 8] (sortedO_ok 62 b.off (by omega) (fun e he => Nat.le_trans (hos e he) (by unfold maxLen; omega)) hon) (k := ?_)
  rintro r st' ⟨rfl, rfl⟩
  conv => whnf
  repeat (first | (refine rest_vc ?_; conv => whnf) | (refine ⟨by decide, ?_⟩; conv => whnf))
  refine hand_drawL { ldc := [9], kps := [4] } [4, 10, 12] (fun _ _ => True) rfl (by kernel_rfl) rfl ?_
  conv => whnf
  repeat (first | (refine rest_vc ?_; conv => whnf) | (refine ⟨by decide, ?_⟩; conv => whnf))
  refine CallIn.o [1, 2, 3, 4, 5, 6] (ordered_ok hso b hnd hl) (k := ?_)
  rintro r st' ⟨nl, rfl, rfl⟩
  refine ⟨⟨.inl rfl, .inl rfl, .inl rfl, .inl rfl, .inl rfl, .inl rfl, .inl rfl, .inl rfl, .inl rfl, .inl rfl, trivial⟩, ?_⟩
  conv => whnf
  repeat (first | (refine rest_vc ?_; conv => whnf) | (refine ⟨by decide, ?_⟩; conv => whnf))
  refine decrec_nn ?_
  conv => whnf
  repeat (first | (refine rest_vc ?_; conv => whnf) | (refine ⟨by decide, ?_⟩; conv => whnf))
  have hol : (ordB b).length = b.rules.length := by unfold ordB; rw [(srtR_perm _).length_eq, List.length_map]
  have hlen : ((ordB b).map pvR).length + (b.rows.map pvR).length ≤ 2000 := by rw [List.length_map, List.length_map]; omega
  refine ⟨Nat.le_trans (Nat.mul_le_mul_right _ hlen) (by decide), ?_⟩
  conv => whnf
  repeat (refine ⟨by decide, ?_⟩; conv => whnf)
  refine rest_frza 12 rfl ?_
  refine rest_vc ?_
  conv => whnf
  repeat (first | (refine rest_vc ?_; conv => whnf) | (refine ⟨by decide, ?_⟩; conv => whnf))
  intro _
  conv => whnf
  repeat (first | (refine rest_vc ?_; conv => whnf) | (refine ⟨by decide, ?_⟩; conv => whnf))
  refine ⟨⟨by omega, by omega⟩, ?_⟩
  conv => whnf
  repeat (refine ⟨by decide, ?_⟩; conv => whnf)
  refine rest_ghostk 9 1 112 2 rfl rfl ?_
  refine rest_drop 8 ?_
  refine rest_drop 10 ?_
  refine rest_drop 12 ?_
  refine rest_vc ?_
  conv => whnf
  repeat (first | (refine rest_vc ?_; conv => whnf) | (refine ⟨by decide, ?_⟩; conv => whnf))
  refine decrec_nn ?_
  conv => whnf
  repeat (first | (refine rest_vc ?_; conv => whnf) | (refine ⟨by decide, ?_⟩; conv => whnf))
  intro _
  conv => whnf
  repeat (first | (refine rest_vc ?_; conv => whnf) | (refine ⟨by decide, ?_⟩; conv => whnf))
  have hpl : (b.prefs.map pvF).length = b.prefs.length := List.length_map ..
  refine awp_loop (n := 67) (α := Nat) (fun i => i ≤ b.prefs.length)
    (fun i => [(0, .ptr 0 0), (2, .ptr 7 0), (5, .ptr 9 0), (49, .vref 4 b.vp), (50, vI .i64 (b.prefs.length : Nat)), (51, vI .i64 i)])
    (fun i => bk 1 b.k ++ [.cells 56 [.pure (.list 0 true []), .pure (.list 0 true []), .pure (.list 0 true [])], .gone, .cells 56 [.pure (rowsPV b nl), .vref 13 0, .pure (offPV b)], .gone, .gone, .gone, .vec 0 112 2 ((b.prefs.take i).map pvP).isEmpty ((b.prefs.take i).map pvP)]) (fun i => b.prefs.length - i) 0 (fun _ => 0)
    (Nat.zero_le _) rfl ⟨rfl, rfl, rfl, rfl, congrArg (vI .i64) (by rw [show b.k.prefs = b.prefs.map pvF from rfl, hpl]), rfl, trivial⟩ rfl (fun _ _ => rfl) (fun _ => ⟨(by show 7 ≤ 14; omega), rfl, rfl⟩) ?_
  rintro i hi
  conv => whnf
  repeat (first | (refine rest_vc ?_; conv => whnf) | (refine ⟨by decide, ?_⟩; conv => whnf))
  split <;> rename_i h2 <;> (conv => whnf) <;> repeat (first | (refine rest_vc ?_; conv => whnf) | (refine ⟨by decide, ?_⟩; conv => whnf))
  · have hlt : i < b.prefs.length := by have : (i : Int) < (b.prefs.length : Int) := of_decide_eq_true h2; omega
    refine must_nn rfl ?_
    refine ⟨⟨by omega, by show (i : Int) < ((b.prefs.map pvF).length : Int); rw [hpl]; omega⟩, ?_⟩
    conv => whnf
    repeat (first | (refine rest_vc ?_; conv => whnf) | (refine ⟨by decide, ?_⟩; conv => whnf))
    refine must_nn rfl ?_
    have hget : b.prefs[i]? = some b.prefs[i] := List.getElem?_eq_getElem hlt
    obtain ⟨y, hy⟩ : ∃ y, y = b.prefs[i] := ⟨_, rfl⟩
    rw [← hy] at hget
    refine ⟨by show (i : Int).toNat < (b.prefs.map pvF).length; rw [hpl]; omega, fun q hq => ?_⟩
    obtain rfl : pvF y = q := by
      have hq : (b.prefs.map pvF)[(i : Int).toNat]? = some q := hq
      rw [Int.toNat_natCast, List.getElem?_map, hget] at hq
      exact Option.some.inj hq
    conv => whnf
    repeat (first | (refine rest_vc ?_; conv => whnf) | (refine ⟨by decide, ?_⟩; conv => whnf))
    have htl : ((b.prefs.take i).map pvP).length ≤ 1000 := by rw [List.length_map, List.length_take]; omega
    refine ⟨by exact Nat.le_trans (Nat.mul_le_mul_right _ (Nat.add_le_add_right htl 1)) (by decide), ?_⟩
    conv => whnf
    repeat (first | (refine rest_vc ?_; conv => whnf) | (refine ⟨by decide, ?_⟩; conv => whnf))
    refine ⟨i + 1, fun o => if o = 13 then 1 else 0, hlt, by omega, rfl, ⟨rfl, rfl, rfl, rfl, rfl, congrArg (vI .i64) (succ64 (by omega)), trivial⟩, ?_, fun o ho => by have : o < 7 := ho; simp; omega⟩
    have e1 : (b.prefs.take (i + 1)).map pvP = (b.prefs.take i).map pvP ++ [pvP y] := by rw [List.take_add_one, hget]; simp
    have e2 : ((b.prefs.take (i + 1)).map pvP).isEmpty = (((b.prefs.take i).map pvP).isEmpty && [pvP y].isEmpty) := by rw [e1, ← isEmpty_snoc ((b.prefs.take i).map pvP).isEmpty]
    refine Eq.trans (b := upSt (fun o => if o = 13 then 1 else 0) 0 (bk 1 b.k ++ [.cells 56 [.pure (.list 0 true []), .pure (.list 0 true []), .pure (.list 0 true [])], .gone, .cells 56 [.pure (rowsPV b nl), .vref 13 0, .pure (offPV b)], .gone, .gone, .gone, .vec 0 112 2 (((b.prefs.take i).map pvP).isEmpty && [pvP y].isEmpty) ((b.prefs.take i).map pvP ++ [pvP y])])) rfl ?_
    rw [← e2, ← e1]
  · have hil : i = b.prefs.length := by have : ¬ (i : Int) < (b.prefs.length : Int) := of_decide_eq_false h2; omega
    subst hil
    refine unlockD (P' := b.k) (e := [.cells 56 [.pure (rowsPV b nl), .vref 13 0, .pure (offPV b)], .gone, .cells 56 [.pure (rowsPV b nl), .vref 13 0, .pure (offPV b)], .gone, .gone, .gone, .vec 0 112 2 ((b.prefs.take b.prefs.length).map pvP).isEmpty ((b.prefs.take b.prefs.length).map pvP)]) rfl ?_
    conv => whnf
    repeat (first | (refine rest_vc ?_; conv => whnf) | (refine ⟨by decide, ?_⟩; conv => whnf))
    refine ⟨⟨nl && (b.rows.map pvR).isEmpty, ((b.prefs.take b.prefs.length).map pvP).isEmpty, b.off.isEmpty, ?_⟩, rfl⟩
    show SV.pure (.agg [rowsPV b nl, .list 2 _ ((b.prefs.take b.prefs.length).map pvP), offPV b]) = _
    rw [rowsPV_eq, List.take_length]
    rfl
end Go.Proofs.YtafngalmkblipaaGreatDoor
/- law10: the settings of the reference's books. -/
set_option linter.all false
set_option maxHeartbeats 4000000
set_option maxRecDepth 100000
namespace Go.Proofs.YtafngalmkblipaaGreatDoor
open Go Go.RowKit Go.Sy Go.Proofs

def rsetRows (r : Rst) : List Rw := (r.rules ++ r.rows).take 60
def cutPV (nl : Bool) (l : List PV) : PV := .list 3 nl ((l.drop 0).take ((min (l.length : Int) 60).toNat - 0))
theorem cutPV_eq (nl : Bool) (l : List PV) : cutPV nl l = .list 3 nl (l.take 60) := by
  unfold cutPV
  rw [List.drop_zero]
  congr 1
  by_cases h : l.length ≤ 60
  · rw [List.take_of_length_le (by omega), List.take_of_length_le h]
  · have : (min (l.length : Int) 60).toNat - 0 = 60 := by omega
    rw [this]
abbrev rcut (r : Rst) : PV := cutPV ((r.rules.map pvR).isEmpty && (r.rows.map pvR).isEmpty) (r.rules.map pvR ++ r.rows.map pvR)
theorem rSetting_ok (r : Rst) (h1 : r.rules.length ≤ 1000) (h2 : r.rows.length ≤ 1000) (h3 : r.prefs.length ≤ 1000) (h4 : r.off.length ≤ 1000) :
    CallOk Tryz.prog 23 [.ptr 0 0] (rs r) fun r' st' => (∃ n1 n2 n3, r' = stg n1 n2 n3 (rsetRows r) r.prefs r.off) ∧ st' = rs r := by
  have hl1 : (r.rules.map pvR).length = r.rules.length := List.length_map ..
  have hl2 : (r.rows.map pvR).length = r.rows.length := List.length_map ..
  have hl3 : (r.prefs.map pvF).length = r.prefs.length := List.length_map ..
  have hl4 : (r.off.map pvB).length = r.off.length := List.length_map ..
  refine callOk_of true 1 Tryz.func23 rfl rfl (Nat.le_refl _) ?_
  conv => whnf
  repeat (first | (refine rest_vc ?_; conv => whnf) | (refine ⟨by decide, ?_⟩; conv => whnf))
  refine hand_drawL { ldc := [10], kps := [6] } [6, 11, 13] (fun _ _ => True) rfl (by kernel_rfl) rfl ?_
  conv => whnf
  repeat (first | (refine rest_vc ?_; conv => whnf) | (refine ⟨by decide, ?_⟩; conv => whnf))
  refine ⟨by exact Nat.le_trans (Nat.mul_le_mul_right _ (show List.length _ ≤ 2000 by omega)) (by decide), ?_⟩
  conv => whnf
  repeat (first | (refine rest_vc ?_; conv => whnf) | (refine ⟨by decide, ?_⟩; conv => whnf))
  refine ⟨⟨.inl rfl, .inl rfl, .inl rfl, trivial⟩, ?_⟩
  conv => whnf
  repeat (first | (refine rest_vc ?_; conv => whnf) | (refine ⟨by decide, ?_⟩; conv => whnf))
  refine ⟨Nat.le_trans (Nat.mul_le_mul_right _ (show List.length _ + List.length _ ≤ 2000 by simp only [List.length_map]; omega)) (by decide), ?_⟩
  conv => whnf
  repeat (refine ⟨by decide, ?_⟩; conv => whnf)
  refine rest_frza 3 rfl ?_
  refine rest_vc ?_
  conv => whnf
  repeat (first | (refine rest_vc ?_; conv => whnf) | (refine ⟨by decide, ?_⟩; conv => whnf))
  intro _
  conv => whnf
  repeat (first | (refine rest_vc ?_; conv => whnf) | (refine ⟨by decide, ?_⟩; conv => whnf))
  refine ⟨⟨by omega, by omega⟩, ?_⟩
  conv => whnf
  repeat (refine ⟨by decide, ?_⟩; conv => whnf)
  refine rest_ghostk 2 1 112 2 rfl rfl ?_
  refine rest_drop 3 ?_
  refine rest_vc ?_
  conv => whnf
  repeat (first | (refine rest_vc ?_; conv => whnf) | (refine ⟨by decide, ?_⟩; conv => whnf))
  refine awp_loop (n := 66) (α := Nat) (fun i => i ≤ r.prefs.length)
    (fun i => [(0, .ptr 0 0), (2, .ptr 1 0), (3, .ptr 2 0), (4, vI .i64 i)])
    (fun i => rs r ++ [.cells 56 [.pure (.list 0 true []), .pure (.list 0 true []), .pure (.list 0 true [])], .cells 56 [.pure (rcut r), .vref 4 0, .pure (.list 0 true [])], .gone, .vec 0 112 2 ((r.prefs.take i).map pvP).isEmpty ((r.prefs.take i).map pvP)]) (fun i => r.prefs.length - i) 0 (fun _ => 0)
    (Nat.zero_le _) rfl ⟨rfl, rfl, rfl, rfl, trivial⟩ rfl (fun _ _ => rfl) (fun _ => ⟨(by show 1 ≤ 5; omega), rfl, rfl⟩) ?_
  rintro i hi
  conv => whnf
  repeat (first | (refine rest_vc ?_; conv => whnf) | (refine ⟨by decide, ?_⟩; conv => whnf))
  intro _
  conv => whnf
  repeat (first | (refine rest_vc ?_; conv => whnf) | (refine ⟨by decide, ?_⟩; conv => whnf))
  split <;> rename_i h2 <;> (conv => whnf) <;> repeat (first | (refine rest_vc ?_; conv => whnf) | (refine ⟨by decide, ?_⟩; conv => whnf))
  · have hlt : i < r.prefs.length := by have : (i : Int) < ((r.prefs.map pvF).length : Int) := of_decide_eq_true h2; omega
    have hget : r.prefs[i]? = some r.prefs[i] := List.getElem?_eq_getElem hlt
    obtain ⟨y, hy⟩ : ∃ y, y = r.prefs[i] := ⟨_, rfl⟩
    rw [← hy] at hget
    have hld : ∀ q, (r.prefs.map pvF)[(i : Int).toNat]? = some q → pvF y = q := fun q hq => by
      rw [Int.toNat_natCast, List.getElem?_map, hget] at hq
      exact Option.some.inj hq
    have htl : ((r.prefs.take i).map pvP).length ≤ 1000 := by rw [List.length_map, List.length_take]; omega
    refine hand_draw [20, 22] (fun _ _ => True) rfl (by kernel_rfl) rfl ?_
    conv => whnf
    repeat (first | (refine rest_vc ?_; conv => whnf) | (refine ⟨by decide, ?_⟩; conv => whnf))
    refine ⟨⟨by omega, by omega⟩, fun q hq => ?_⟩
    obtain rfl := hld q hq
    conv => whnf
    repeat (first | (refine rest_vc ?_; conv => whnf) | (refine ⟨by decide, ?_⟩; conv => whnf))
    refine ⟨⟨by omega, by omega⟩, fun q hq => ?_⟩
    obtain rfl := hld q hq
    conv => whnf
    repeat (first | (refine rest_vc ?_; conv => whnf) | (refine ⟨by decide, ?_⟩; conv => whnf))
    refine ⟨by exact Nat.le_trans (Nat.mul_le_mul_right _ (Nat.add_le_add_right htl 1)) (by decide), ?_⟩
    conv => whnf
    repeat (first | (refine rest_vc ?_; conv => whnf) | (refine ⟨by decide, ?_⟩; conv => whnf))
    refine ⟨i + 1, fun o => if o = 4 then 1 else 0, hlt, by omega, rfl, ⟨rfl, rfl, rfl, congrArg (vI .i64) (succ64 (by omega)), trivial⟩, ?_, fun o ho => by have : o < 1 := ho; simp; omega⟩
    have e1 : (r.prefs.take (i + 1)).map pvP = (r.prefs.take i).map pvP ++ [pvP y] := by rw [List.take_add_one, hget]; simp
    have e2 : ((r.prefs.take (i + 1)).map pvP).isEmpty = (((r.prefs.take i).map pvP).isEmpty && [pvP y].isEmpty) := by rw [e1, ← isEmpty_snoc ((r.prefs.take i).map pvP).isEmpty]
    refine Eq.trans (b := upSt (fun o => if o = 4 then 1 else 0) 0 (rs r ++ [.cells 56 [.pure (.list 0 true []), .pure (.list 0 true []), .pure (.list 0 true [])], .cells 56 [.pure (rcut r), .vref 4 0, .pure (.list 0 true [])], .gone, .vec 0 112 2 (((r.prefs.take i).map pvP).isEmpty && [pvP y].isEmpty) ((r.prefs.take i).map pvP ++ [pvP y])])) rfl ?_
    rw [← e2, ← e1]
  · have hil : i = r.prefs.length := by have : ¬ (i : Int) < ((r.prefs.map pvF).length : Int) := of_decide_eq_false h2; omega
    subst hil
    refine hand_drawL {} [6, 8] (fun _ _ => True) rfl (by kernel_rfl) rfl ?_
    conv => whnf
    repeat (first | (refine rest_vc ?_; conv => whnf) | (refine ⟨by decide, ?_⟩; conv => whnf))
    refine ⟨by exact Nat.le_trans (Nat.mul_le_mul_right _ (show List.length _ ≤ 2000 by omega)) (by decide), ?_⟩
    conv => whnf
    repeat (first | (refine rest_vc ?_; conv => whnf) | (refine ⟨by decide, ?_⟩; conv => whnf))
    refine ⟨⟨((r.rules.map pvR).isEmpty && (r.rows.map pvR).isEmpty), ((r.prefs.take r.prefs.length).map pvP).isEmpty, (r.off.map pvB).isEmpty, ?_⟩, rfl⟩
    show SV.pure (.agg [rcut r, .list 2 _ ((r.prefs.take r.prefs.length).map pvP), .list 1 _ (r.off.map pvB)]) = _
    unfold rcut
    rw [cutPV_eq, List.take_length]
    have e : (rsetRows r).map pvR = (r.rules.map pvR ++ r.rows.map pvR).take 60 := by unfold rsetRows; rw [List.map_take, List.map_append]
    rw [← e]

/-! ## two settings -/
theorem sameTexts_ok (n1 n2 : Bool) (l : List ByteArray) (hl : l.length ≤ 1000) :
    CallOk Tryz.prog 55 [.pure (.list 1 n1 (l.map pvB)), .pure (.list 1 n2 (l.map pvB))] [] fun r st' => st' = [] ∧ r = vB true := by
  have hl1 : (l.map pvB).length = l.length := List.length_map ..
  refine callOk_of false 0 Tryz.func55 rfl rfl (Nat.le_refl _) ?_
  conv => whnf
  repeat (first | (refine rest_vc ?_; conv => whnf) | (refine ⟨by decide, ?_⟩; conv => whnf))
  intro _
  conv => whnf
  repeat (first | (refine rest_vc ?_; conv => whnf) | (refine ⟨by decide, ?_⟩; conv => whnf))
  intro _
  conv => whnf
  repeat (first | (refine rest_vc ?_; conv => whnf) | (refine ⟨by decide, ?_⟩; conv => whnf))
  split <;> rename_i h <;> (conv => whnf) <;> repeat (first | (refine rest_vc ?_; conv => whnf) | (refine ⟨by decide, ?_⟩; conv => whnf))
  · simp at h
  · refine awp_loop (n := 26) (α := Nat) (fun i => i ≤ l.length) (fun i => [(0, .pure (.list 1 n1 (l.map pvB))), (1, .pure (.list 1 n2 (l.map pvB))), (5, vI .i64 i)]) (fun _ => []) (fun i => l.length - i) 0 (fun _ => 0)
      (Nat.zero_le _) rfl ⟨rfl, rfl, rfl, trivial⟩ rfl (fun _ _ => rfl) (fun _ => ⟨Nat.le_refl _, rfl, rfl⟩) ?_
    rintro i hi
    conv => whnf
    repeat (first | (refine rest_vc ?_; conv => whnf) | (refine ⟨by decide, ?_⟩; conv => whnf))
    intro _
    conv => whnf
    repeat (first | (refine rest_vc ?_; conv => whnf) | (refine ⟨by decide, ?_⟩; conv => whnf))
    split <;> rename_i h2 <;> (conv => whnf) <;> repeat (first | (refine rest_vc ?_; conv => whnf) | (refine ⟨by decide, ?_⟩; conv => whnf))
    · have hlt : i < l.length := by have : (i : Int) < ((l.map pvB).length : Int) := of_decide_eq_true h2; omega
      have hget : l[i]? = some l[i] := List.getElem?_eq_getElem hlt
      obtain ⟨y, hy⟩ : ∃ y, y = l[i] := ⟨_, rfl⟩
      rw [← hy] at hget
      have hld : ∀ q, (l.map pvB)[(i : Int).toNat]? = some q → pvB y = q := fun q hq => by
        rw [Int.toNat_natCast, List.getElem?_map, hget] at hq
        exact Option.some.inj hq
      refine hand_draw [] (fun _ _ => True) rfl (by kernel_rfl) rfl ?_
      conv => whnf
      repeat (first | (refine rest_vc ?_; conv => whnf) | (refine ⟨by decide, ?_⟩; conv => whnf))
      refine ⟨⟨by omega, by omega⟩, fun q hq => ?_⟩
      obtain rfl := hld q hq
      conv => whnf
      repeat (first | (refine rest_vc ?_; conv => whnf) | (refine ⟨by decide, ?_⟩; conv => whnf))
      refine ⟨⟨by omega, by omega⟩, fun q hq => ?_⟩
      obtain rfl := hld q hq
      conv => whnf
      repeat (first | (refine rest_vc ?_; conv => whnf) | (refine ⟨by decide, ?_⟩; conv => whnf))
      split <;> rename_i h3 <;> (conv => whnf) <;> repeat (first | (refine rest_vc ?_; conv => whnf) | (refine ⟨by decide, ?_⟩; conv => whnf))
      · simp at h3
      · exact ⟨i + 1, fun _ => 0, hlt, by omega, rfl, ⟨rfl, rfl, congrArg (vI .i64) (succ64 (by omega)), trivial⟩, rfl, fun _ _ => rfl⟩
    · exact ⟨rfl, rfl⟩
theorem flatP : flatT Tryz.prog 112 = some [.string, .int .i64] := by kernel_rfl
theorem eqP_self (y : Pf) : eqPV Tryz.prog 112 (pvP y) (pvP y) = some true := by
  unfold eqPV pvP
  simp only [flatP]
  show some ((y.n.toList == y.n.toList) && ((y.v == y.v) && true)) = some true
  simp
abbrev sgC (n1 n2 n3 : Bool) (rows : List Rw) (prefs : List Pf) (off : List ByteArray) : Ob := .cells 56 [.pure (.list 3 n1 (rows.map pvR)), .pure (.list 2 n2 (prefs.map pvP)), .pure (.list 1 n3 (off.map pvB))]
theorem settings_ok (n1 n2 n3 n4 n5 n6 : Bool) (rows : List Rw) (prefs : List Pf) (off : List ByteArray) (h1 : rows.length ≤ 1000) (h2 : prefs.length ≤ 1000) (h3 : off.length ≤ 1000) :
    CallOk Tryz.prog 21 [stg n1 n2 n3 rows prefs off, stg n4 n5 n6 rows prefs off] [] fun r st' => st' = [] ∧ r = vB true := by
  have hl1 : (rows.map pvR).length = rows.length := List.length_map ..
  have hl2 : (prefs.map pvP).length = prefs.length := List.length_map ..
  refine callOk_of false 0 Tryz.func21 rfl (by kernel_rfl) (Nat.le_refl _) ?_
  conv => whnf
  repeat (first | (refine rest_vc ?_; conv => whnf) | (refine ⟨by decide, ?_⟩; conv => whnf))
  intro _
  conv => whnf
  repeat (first | (refine rest_vc ?_; conv => whnf) | (refine ⟨by decide, ?_⟩; conv => whnf))
  intro _
  conv => whnf
  repeat (first | (refine rest_vc ?_; conv => whnf) | (refine ⟨by decide, ?_⟩; conv => whnf))
  split <;> rename_i h <;> (conv => whnf) <;> repeat (first | (refine rest_vc ?_; conv => whnf) | (refine ⟨by decide, ?_⟩; conv => whnf))
  · simp at h
  intro _
  conv => whnf
  repeat (first | (refine rest_vc ?_; conv => whnf) | (refine ⟨by decide, ?_⟩; conv => whnf))
  intro _
  conv => whnf
  repeat (first | (refine rest_vc ?_; conv => whnf) | (refine ⟨by decide, ?_⟩; conv => whnf))
  split <;> rename_i h <;> (conv => whnf) <;> repeat (first | (refine rest_vc ?_; conv => whnf) | (refine ⟨by decide, ?_⟩; conv => whnf))
  · simp at h
  refine CallIn.to (sameTexts_ok n3 n6 off h3) (k := ?_)
  conv => whnf
  repeat (first | (refine rest_vc ?_; conv => whnf) | (refine ⟨by decide, ?_⟩; conv => whnf))
  refine awp_loop (n := 67) (α := Nat) (fun i => i ≤ rows.length) (fun i => [(2, .ptr 0 0), (3, .ptr 1 0), (5, vI .i64 i)]) (fun _ => [sgC n1 n2 n3 rows prefs off, sgC n4 n5 n6 rows prefs off]) (fun i => rows.length - i) 0 (fun _ => 0)
    (Nat.zero_le _) rfl ⟨rfl, rfl, rfl, trivial⟩ rfl (fun _ _ => rfl) (fun _ => ⟨(by show 0 ≤ 2; omega), rfl, rfl⟩) ?_
  rintro i hi
  conv => whnf
  repeat (first | (refine rest_vc ?_; conv => whnf) | (refine ⟨by decide, ?_⟩; conv => whnf))
  intro _
  conv => whnf
  repeat (first | (refine rest_vc ?_; conv => whnf) | (refine ⟨by decide, ?_⟩; conv => whnf))
  split <;> rename_i h <;> (conv => whnf) <;> repeat (first | (refine rest_vc ?_; conv => whnf) | (refine ⟨by decide, ?_⟩; conv => whnf))
  · have hlt : i < rows.length := by have : (i : Int) < ((rows.map pvR).length : Int) := of_decide_eq_true h; omega
    have hget : rows[i]? = some rows[i] := List.getElem?_eq_getElem hlt
    obtain ⟨y, hy⟩ : ∃ y, y = rows[i] := ⟨_, rfl⟩
    rw [← hy] at hget
    have hld : ∀ q, (rows.map pvR)[(i : Int).toNat]? = some q → pvR y = q := fun q hq => by
      rw [Int.toNat_natCast, List.getElem?_map, hget] at hq
      exact Option.some.inj hq
    refine hand_draw [] (fun _ _ => True) rfl (by kernel_rfl) rfl ?_
    conv => whnf
    repeat (first | (refine rest_vc ?_; conv => whnf) | (refine ⟨by decide, ?_⟩; conv => whnf))
    refine ⟨⟨by omega, by omega⟩, fun q hq => ?_⟩
    obtain rfl := hld q hq
    conv => whnf
    repeat (first | (refine rest_vc ?_; conv => whnf) | (refine ⟨by decide, ?_⟩; conv => whnf))
    refine ⟨⟨by omega, by omega⟩, fun q hq => ?_⟩
    obtain rfl := hld q hq
    conv => whnf
    repeat (first | (refine rest_vc ?_; conv => whnf) | (refine ⟨by decide, ?_⟩; conv => whnf))
    split <;> rename_i h4 <;> (conv => whnf) <;> repeat (first | (refine rest_vc ?_; conv => whnf) | (refine ⟨by decide, ?_⟩; conv => whnf))
    · simp at h4
    · exact ⟨i + 1, fun _ => 0, hlt, by omega, rfl, ⟨rfl, rfl, congrArg (vI .i64) (succ64 (by omega)), trivial⟩, rfl, fun _ _ => rfl⟩
  · refine awp_loop (n := 67) (α := Nat) (fun i => i ≤ prefs.length) (fun i => [(2, .ptr 0 0), (3, .ptr 1 0), (6, vI .i64 i)]) (fun _ => [sgC n1 n2 n3 rows prefs off, sgC n4 n5 n6 rows prefs off]) (fun i => prefs.length - i) 0 (fun _ => 0)
      (Nat.zero_le _) rfl ⟨rfl, rfl, rfl, trivial⟩ rfl (fun _ _ => rfl) (fun _ => ⟨(by show 0 ≤ 2; omega), rfl, rfl⟩) ?_
    rintro i hi
    conv => whnf
    repeat (first | (refine rest_vc ?_; conv => whnf) | (refine ⟨by decide, ?_⟩; conv => whnf))
    intro _
    conv => whnf
    repeat (first | (refine rest_vc ?_; conv => whnf) | (refine ⟨by decide, ?_⟩; conv => whnf))
    split <;> rename_i h <;> (conv => whnf) <;> repeat (first | (refine rest_vc ?_; conv => whnf) | (refine ⟨by decide, ?_⟩; conv => whnf))
    · have hlt : i < prefs.length := by have : (i : Int) < ((prefs.map pvP).length : Int) := of_decide_eq_true h; omega
      have hget : prefs[i]? = some prefs[i] := List.getElem?_eq_getElem hlt
      obtain ⟨y, hy⟩ : ∃ y, y = prefs[i] := ⟨_, rfl⟩
      rw [← hy] at hget
      have hld : ∀ q, (prefs.map pvP)[(i : Int).toNat]? = some q → pvP y = q := fun q hq => by
        rw [Int.toNat_natCast, List.getElem?_map, hget] at hq
        exact Option.some.inj hq
      refine hand_draw [] (fun _ _ => True) rfl (by kernel_rfl) rfl ?_
      conv => whnf
      repeat (first | (refine rest_vc ?_; conv => whnf) | (refine ⟨by decide, ?_⟩; conv => whnf))
      refine ⟨⟨by omega, by omega⟩, fun q hq => ?_⟩
      obtain rfl := hld q hq
      conv => whnf
      repeat (first | (refine rest_vc ?_; conv => whnf) | (refine ⟨by decide, ?_⟩; conv => whnf))
      refine ⟨⟨by omega, by omega⟩, fun q hq => ?_⟩
      obtain rfl := hld q hq
      conv => whnf
      repeat (first | (refine rest_vc ?_; conv => whnf) | (refine ⟨by decide, ?_⟩; conv => whnf))
      have e4 := eqP_self y
      split
      · rename_i c hc
        have hc : eqPV Tryz.prog 112 (pvP y) (pvP y) = some c := hc
        rw [e4] at hc
        cases hc
        refine onB_false rfl ?_
        conv => whnf
        repeat (first | (refine rest_vc ?_; conv => whnf) | (refine ⟨by decide, ?_⟩; conv => whnf))
        exact ⟨i + 1, fun _ => 0, hlt, by omega, rfl, ⟨rfl, rfl, congrArg (vI .i64) (succ64 (by omega)), trivial⟩, rfl, fun _ _ => rfl⟩
      · rename_i hc
        have hc : eqPV Tryz.prog 112 (pvP y) (pvP y) = none := hc
        rw [e4] at hc
        cases hc
    · exact ⟨rfl, rfl⟩
end Go.Proofs.YtafngalmkblipaaGreatDoor
/- law10: numbers as texts; texts joined: the shelf's contracts. -/
set_option linter.all false
set_option maxHeartbeats 4000000
set_option maxRecDepth 100000
namespace Go.Proofs
def YtafngalmkblipaaGreatDoor.laysM171_ren : Go.Shelf.Ren := ⟨fun | 171 => 45 | 243 => 77 | 246 => 99 | 283 => 121 | 284 => 122 | 285 => 123 | 286 => 124 | 129 => 134 | 317 => 158 | 318 => 159 | 319 => 160 | 320 => 161 | 337 => 178 | 338 => 179 | n => n, fun | 3 => 3 | 9 => 9 | 2 => 2 | 4 => 4 | 171 => 172 | 0 => 0 | 53 => 173 | 37 => 38 | 5 => 5 | 173 => 176 | 212 => 208 | 51 => 69 | 20 => 20 | 213 => 209 | 46 => 137 | 232 => 233 | 233 => 234 | n => n, fun | 17 => 0 | 18 => 3 | 19 => 4 | n => n⟩
theorem YtafngalmkblipaaGreatDoor.laysM171 : Go.Proofs.LaysM.n171 Tryz.prog YtafngalmkblipaaGreatDoor.laysM171_ren := {
  mixed := by kernel_rfl
  f129 := Tryz.func134.trans (congrArg some (by kernel_rfl))
  f171 := Tryz.func45.trans (congrArg some (by kernel_rfl))
  f243 := Tryz.func77.trans (congrArg some (by kernel_rfl))
  f246 := Tryz.func99.trans (congrArg some (by kernel_rfl))
  f283 := Tryz.func121.trans (congrArg some (by kernel_rfl))
  f284 := Tryz.func122.trans (congrArg some (by kernel_rfl))
  f285 := Tryz.func123.trans (congrArg some (by kernel_rfl))
  f286 := Tryz.func124.trans (congrArg some (by kernel_rfl))
  f317 := Tryz.func158.trans (congrArg some (by kernel_rfl))
  f318 := Tryz.func159.trans (congrArg some (by kernel_rfl))
  f319 := Tryz.func160.trans (congrArg some (by kernel_rfl))
  f320 := Tryz.func161.trans (congrArg some (by kernel_rfl))
  f337 := Tryz.func178.trans (congrArg some (by kernel_rfl))
  f338 := Tryz.func179.trans (congrArg some (by kernel_rfl))
  t0 := Tryz.underlying0
  a0 := Tryz.isAgg0
  z0 := Tryz.sizeOf0
  v0 := Tryz.zeroValue0
  t2 := Tryz.underlying2
  a2 := Tryz.isAgg2
  z2 := Tryz.sizeOf2
  v2 := Tryz.zeroValue2
  t3 := Tryz.underlying3
  a3 := Tryz.isAgg3
  z3 := Tryz.sizeOf3
  v3 := Tryz.zeroValue3
  t4 := Tryz.underlying4
  a4 := Tryz.isAgg4
  z4 := Tryz.sizeOf4
  v4 := Tryz.zeroValue4
  t5 := Tryz.underlying5
  a5 := Tryz.isAgg5
  z5 := Tryz.sizeOf5
  v5 := Tryz.zeroValue5
  t9 := Tryz.underlying9
  a9 := Tryz.isAgg9
  z9 := Tryz.sizeOf9
  v9 := Tryz.zeroValue9
  t20 := Tryz.underlying20
  a20 := Tryz.isAgg20
  z20 := Tryz.sizeOf20
  v20 := Tryz.zeroValue20
  t37 := Tryz.underlying38
  a37 := Tryz.isAgg38
  z37 := Tryz.sizeOf38
  v37 := Tryz.zeroValue38
  t46 := Tryz.underlying137
  a46 := Tryz.isAgg137
  z46 := Tryz.sizeOf137
  v46 := Tryz.zeroValue137
  t51 := Tryz.underlying69
  a51 := Tryz.isAgg69
  z51 := Tryz.sizeOf69
  v51 := Tryz.zeroValue69
  t53 := Tryz.underlying173
  a53 := Tryz.isAgg173
  z53 := Tryz.sizeOf173
  v53 := Tryz.zeroValue173
  t171 := Tryz.underlying172
  a171 := Tryz.isAgg172
  z171 := Tryz.sizeOf172
  v171 := Tryz.zeroValue172
  t173 := Tryz.underlying176
  a173 := Tryz.isAgg176
  z173 := Tryz.sizeOf176
  v173 := Tryz.zeroValue176
  t212 := Tryz.underlying208
  a212 := Tryz.isAgg208
  z212 := Tryz.sizeOf208
  v212 := Tryz.zeroValue208
  t213 := Tryz.underlying209
  a213 := Tryz.isAgg209
  z213 := Tryz.sizeOf209
  t232 := Tryz.underlying233
  a232 := Tryz.isAgg233
  z232 := Tryz.sizeOf233
  v232 := Tryz.zeroValue233
  t233 := Tryz.underlying234
  a233 := Tryz.isAgg234
  z233 := Tryz.sizeOf234
  v233 := Tryz.zeroValue234
  g17 := by kernel_rfl
  g18 := by kernel_rfl
  g19 := by kernel_rfl
  i0 := by kernel_rfl
  i2 := by kernel_rfl
  i3 := by kernel_rfl
  i4 := by kernel_rfl
  i5 := by kernel_rfl
  i9 := by kernel_rfl
  i20 := by kernel_rfl
  i37 := by kernel_rfl
  i46 := by kernel_rfl
  i51 := by kernel_rfl
  i53 := by kernel_rfl
  i171 := by kernel_rfl
  i173 := by kernel_rfl
  i212 := by kernel_rfl
  i232 := by kernel_rfl
  i233 := by kernel_rfl
  m17 := by kernel_rfl
  m18 := by kernel_rfl
  m19 := by kernel_rfl }
def YtafngalmkblipaaGreatDoor.lays156_ren : Go.Shelf.Ren := ⟨fun | 156 => 76 | 165 => 98 | 166 => 75 | 169 => 51 | 240 => 97 | 241 => 120 | 276 => 119 | 277 => 157 | n => n, fun | 31 => 54 | 9 => 9 | 3 => 3 | 4 => 4 | 0 => 0 | 20 => 20 | 72 => 93 | 76 => 129 | 70 => 91 | 37 => 38 | 75 => 128 | 127 => 138 | 164 => 161 | 5 => 5 | 80 => 51 | n => n, fun | n => n⟩
theorem YtafngalmkblipaaGreatDoor.lays156 : Go.Proofs.Lays.n156 Tryz.prog YtafngalmkblipaaGreatDoor.lays156_ren := {
  mixed := by kernel_rfl
  f156 := Tryz.func76.trans (congrArg some (by kernel_rfl))
  f165 := Tryz.func98.trans (congrArg some (by kernel_rfl))
  f166 := Tryz.func75.trans (congrArg some (by kernel_rfl))
  f169 := Tryz.func51.trans (congrArg some (by kernel_rfl))
  f240 := Tryz.func97.trans (congrArg some (by kernel_rfl))
  f241 := Tryz.func120.trans (congrArg some (by kernel_rfl))
  f276 := Tryz.func119.trans (congrArg some (by kernel_rfl))
  f277 := Tryz.func157.trans (congrArg some (by kernel_rfl))
  t0 := Tryz.underlying0
  a0 := Tryz.isAgg0
  z0 := Tryz.sizeOf0
  v0 := Tryz.zeroValue0
  t3 := Tryz.underlying3
  a3 := Tryz.isAgg3
  z3 := Tryz.sizeOf3
  v3 := Tryz.zeroValue3
  t4 := Tryz.underlying4
  a4 := Tryz.isAgg4
  z4 := Tryz.sizeOf4
  v4 := Tryz.zeroValue4
  t9 := Tryz.underlying9
  a9 := Tryz.isAgg9
  z9 := Tryz.sizeOf9
  v9 := Tryz.zeroValue9
  t20 := Tryz.underlying20
  a20 := Tryz.isAgg20
  z20 := Tryz.sizeOf20
  v20 := Tryz.zeroValue20
  t31 := Tryz.underlying54
  a31 := Tryz.isAgg54
  z31 := Tryz.sizeOf54
  v31 := Tryz.zeroValue54
  t37 := Tryz.underlying38
  a37 := Tryz.isAgg38
  z37 := Tryz.sizeOf38
  v37 := Tryz.zeroValue38
  t70 := Tryz.underlying91
  a70 := Tryz.isAgg91
  z70 := Tryz.sizeOf91
  v70 := Tryz.zeroValue91
  t72 := Tryz.underlying93
  a72 := Tryz.isAgg93
  z72 := Tryz.sizeOf93
  v72 := Tryz.zeroValue93
  t75 := Tryz.underlying128
  a75 := Tryz.isAgg128
  z75 := Tryz.sizeOf128
  v75 := Tryz.zeroValue128
  t76 := Tryz.underlying129
  a76 := Tryz.isAgg129
  z76 := Tryz.sizeOf129
  v76 := Tryz.zeroValue129
  t127 := Tryz.underlying138
  a127 := Tryz.isAgg138
  z127 := Tryz.sizeOf138
  v127 := Tryz.zeroValue138
  t164 := Tryz.underlying161
  a164 := Tryz.isAgg161
  z164 := Tryz.sizeOf161
  v164 := Tryz.zeroValue161 }
end Go.Proofs
namespace Go.Proofs.YtafngalmkblipaaGreatDoor
open Go Go.RowKit Go.Sy Go.Proofs Go.Sort

/-- A number as a text. -/
def itoaB (n : Int) : ByteArray := ⟨(Lib.itoa n).toArray⟩
theorem fnItoa : isFn Tryz.prog 45 := ⟨_, Tryz.func45, rfl, by kernel_rfl⟩
theorem itoa_ok (n : Int) (h0 : -9223372036854775808 ≤ n) (h1 : n ≤ 9223372036854775807) : CallOk Tryz.prog 45 [vI .i64 n] [] fun r st' => st' = [] ∧ r = vS (itoaB n) := by
  intro χ G w vs hgl hargs hst hG
  obtain ⟨u, r, rfl, hu, hr⟩ := hargs
  have hr : r = [] := hr
  subst hr
  have hu : u = .int .i64 n := hu
  subst hu
  have hg : Tryz.prog.globalNamed "internal/strconv.uint64pow10" = some 0 := by kernel_rfl
  have htab : Lib.TabIs Tryz.prog w "internal/strconv.uint64pow10" .u64 Lib.pow10Tab := TabAt.tabIs hg (hgl (tabFact 0 .u64 Lib.pow10Tab) (by simp [glFacts]))
  refine .inl ⟨fnItoa, (Any.strconv_Itoa YtafngalmkblipaaGreatDoor.laysM171 n h0 h1 w htab).mono ?_⟩
  rintro e w' ⟨rfl, k, os, rfl⟩
  have hb : ∀ b, b < w.heap.size → (grow (w.drewN k) os).heap[b]? = w.heap[b]? := fun b hb => by
    show (w.heap ++ os)[b]? = _
    rw [Array.getElem?_append_left hb]
  exact ⟨_, _, [], χ, G, ⟨rfl, rfl⟩, rfl, rfl, fun o ob ho => (by simp at ho), ⟨rfl, rfl, rfl, by simp [grow], fun b hlt hi => ⟨hi, hb b hlt⟩, fun b hlt hi => ⟨hi, hb b hlt⟩⟩, Nat.le_refl _, fun o ho => absurd ho (Nat.not_lt_zero _), hG⟩

/-- Texts with a blank between them. -/
def joinB (l : List ByteArray) : ByteArray := ⟨(Lib.join (l.map (·.data.toList)) [32]).toArray⟩
theorem fnJoin : isFn Tryz.prog 76 := ⟨_, Tryz.func76, rfl, by kernel_rfl⟩
abbrev blank : ByteArray := ⟨#[32]⟩
theorem extraJ : Builder.Extra Tryz.prog YtafngalmkblipaaGreatDoor.lays156_ren where
  sizeBuilder := by kernel_rfl
  liesBuilder := by kernel_rfl
  t5 := Tryz.underlying5
  a5 := Tryz.isAgg5
  z5 := Tryz.sizeOf5
  v5 := Tryz.zeroValue5
  infoByte := by kernel_rfl
  cellsByte := by kernel_rfl
  sizeByte := by kernel_rfl
  neB5 := by decide
theorem addr_none {w : World} {ad : Addr} {u : Value} (h : w.cell? ad = some u) : ad = ⟨ad.block, ad.off, none⟩ := by
  unfold World.cell? at h
  split at h
  · split at h
    · cases h
    · rename_i hs
      cases ad with
      | mk b o s => cases s with
        | none => rfl
        | some _ => simp at hs
  · cases h
theorem join_ok (nl : Bool) (l : List ByteArray) (hl : l.length ≤ 1000) (hlen : (Lib.join (l.map (·.data.toList)) [32]).length ≤ 100000000) :
    CallOk Tryz.prog 76 [.pure (.list 1 nl (l.map pvB)), vS blank] [] fun r st' => st' = [] ∧ r = vS (joinB l) := by
  intro χ G w vs hgl hargs hst hG
  obtain ⟨u, r, rfl, ⟨A, c, us, rfl, h2, h3, h4, h5, h6, h7⟩, hr⟩ := hargs
  obtain ⟨u2, r, rfl, hu2, hr⟩ := hr
  have hr : r = [] := hr
  subst hr
  have hu2 : u2 = .string blank := hu2
  subst hu2
  have hus := RF_strs h6
  subst hus
  rw [List.length_map] at h2 ⊢
  have fin : ∀ w', Below w.heap.size w w' → ∃ r v st' χ' G', (st' = [] ∧ r = vS (joinB l)) ∧ Ending.returned (.string (joinB l)) = .returned v ∧ RS χ' w' G' r v ∧ RSt χ' w' G' st' ∧ Fr χ w χ' w' ∧ ([] : List Ob).length ≤ st'.length ∧ GLe ([] : List Ob).length G G' ∧ ∀ o, st'.length ≤ o → G' o = none := fun w' hb =>
    ⟨_, _, [], χ, G, ⟨rfl, rfl⟩, rfl, rfl, fun o ob ho => (by simp at ho), ⟨hb.os, hb.tape, hb.output, hb.size, fun b hlt hi => ⟨hi, hb.block b hlt⟩, fun b hlt hi => ⟨hi, hb.block b hlt⟩⟩, Nat.le_refl _, fun o ho => absurd ho (Nat.not_lt_zero _), hG⟩
  cases l with
  | nil =>
    refine .inl ⟨fnJoin, (Any.strings_Join_none YtafngalmkblipaaGreatDoor.lays156 extraJ A c blank w).mono ?_⟩
    rintro e w' ⟨rfl, rfl⟩
    exact fin _ (Below.refl _ _)
  | cons x l =>
    obtain ⟨ad, rfl, hi, hc⟩ := h7 0 _ rfl
    have hc0 : w.cell? ad = some (encStr x.data.toList) := hc
    have had := addr_none hc0
    have hbk := World.block_lt_of_cell? w _ hc0
    have hcj : Calls Tryz.prog 76 #[.slice (some ⟨ad.block, ad.off, none⟩) (x :: l).length c, .string blank] w _ := Any.strings_Join YtafngalmkblipaaGreatDoor.lays156 extraJ ad.block ad.off c (x :: l) blank w (fun j y hy => by
      obtain ⟨ad', e', _, hcell⟩ := h7 j (encStr y.data.toList) (by rw [List.getElem?_map, List.getElem?_map, hy]; rfl)
      injection e' with e'
      subst e'
      have : ad.add j = ⟨ad.block, ad.off + j, none⟩ := by
        unfold Addr.add
        split
        · rename_i h0; subst h0; exact had
        · rfl
      rw [this] at hcell
      exact hcell) hbk (by omega) h2 (by show (Lib.join _ [32]).length ≤ _; omega)
    rw [← had] at hcj
    refine .inl ⟨fnJoin, hcj.mono ?_⟩
    rintro e w' ⟨rfl, hb⟩
    exact fin _ hb
end Go.Proofs.YtafngalmkblipaaGreatDoor
/- law10: a writer of lines: strings.Builder within a struct. -/
set_option linter.all false
set_option maxHeartbeats 4000000
set_option maxRecDepth 100000
namespace Go.Proofs.YtafngalmkblipaaGreatDoor
open Go Go.RowKit Go.Sy Go.Proofs Go.Sort

theorem sizeBld : (Tryz.prog.info? 93).map (·.size) = some 2 := by kernel_rfl
theorem liesBld : liesAt Tryz.prog Tryz.prog.depth 95 (2 / Tryz.prog.cellsOf 95) 0 93 1 = true := by kernel_rfl
theorem ccFresh (b : Nat) (w : World) (h0 : w.cell? ⟨b, 0, none⟩ = some (.pointer none)) (hsh : w.shape? b = some (95, 2)) (hfz : w.frozen? ⟨b, 0, none⟩ = false) :
    Calls Tryz.prog 97 #[.pointer (some ⟨b, 0, none⟩)] w fun e w' => e = .returned (.tuple #[]) ∧ w' = w.setCell ⟨b, 0, none⟩ (.pointer (some ⟨b, 0, none⟩)) := by
  obtain ⟨j, hj, hjs⟩ := Option.map_eq_some_iff.1 sizeBld
  go_enter Tryz.func97, Tryz.ntmps97
  go_wp2
  rw [Lib.run_to_unsafe w ⟨b, 0, none⟩ Tryz.underlying91 Tryz.underlying161 hj (by rw [hjs]; decide) hsh (Nat.zero_lt_succ 1)]
  simp only [Result.andThen]
  rw [Oper.upon_value]
  go_wp2
  rw [run_callFunc_extern Tryz.func119 (by kernel_rfl) (by kernel_rfl) (by kernel_rfl) (e := Extern.AbiNoEscape.same) (by kernel_rfl)]
  rw [Lib.run_noEscape]
  simp only [Result.andThen]
  rw [Oper.upon_value]
  go_wp2
  rw [Lib.run_from_unsafe w ⟨b, 0, none⟩ Tryz.underlying161 Tryz.underlying91 hj hsh liesBld]
  simp only [Result.andThen]
  rw [Oper.upon_value]
  go_wp2
  go_end0
  exact ⟨rfl, rfl⟩
theorem ccUsed (b : Nat) (w : World) (h0 : w.cell? ⟨b, 0, none⟩ = some (.pointer (some ⟨b, 0, none⟩))) :
    Calls Tryz.prog 97 #[.pointer (some ⟨b, 0, none⟩)] w fun e w' => e = .returned (.tuple #[]) ∧ w' = w := by
  obtain ⟨j, hj, hjs⟩ := Option.map_eq_some_iff.1 sizeBld
  go_enter Tryz.func97, Tryz.ntmps97
  go_wp2
  rw [Lib.run_neq_ptr_same w _ Tryz.underlying91 hj]
  go_wp2
  go_end0
  exact ⟨rfl, rfl⟩
theorem fnCc : isFn Tryz.prog 97 := ⟨_, Tryz.func97, rfl, by kernel_rfl⟩
abbrev nilP : SV := .pure (.val (.pointer none))
theorem ccF_ok (n : Nat) (nl : Bool) (xs : List PV) : CallOk Tryz.prog 97 [.ptr 0 0] [.cells 95 [nilP, .vref 1 n], .vec n 5 1 nl xs]
    fun r st' => r = .tup [] ∧ st' = [.cells 95 [.ptr 0 0, .vref 1 n], .vec n 5 1 nl xs] := by
  intro χ G w vs hgl hargs hst hG
  obtain ⟨u, r, rfl, ⟨g0, hg0, rfl⟩, hr⟩ := hargs
  have hr : r = [] := hr
  subst hr
  obtain ⟨g, us, hg, hc, hh, hcl⟩ := hst 0 _ rfl
  rw [hg0] at hg
  cases hg
  obtain ⟨u0, r, rfl, ho0, hu0, hr⟩ := hcl
  have hu0 : u0 = .pointer none := hu0
  subst hu0
  obtain ⟨v, r2, rfl, ho1, hv, hr2⟩ := hr
  have hr2 : r2 = [] := hr2
  subst hr2
  have hcell : w.cell? ⟨g0, 0, none⟩ = some (.pointer none) := by simp [World.cell?, hh]
  have hsh : w.shape? g0 = some (95, 2) := by simp [World.shape?, hh]
  have hfz : w.frozen? ⟨g0, 0, none⟩ = false := by simp [World.frozen?, hh]
  refine .inl ⟨fnCc, (ccFresh g0 w hcell hsh hfz).mono ?_⟩
  rintro e w' ⟨rfl, rfl⟩
  have hself : (w.setCell ⟨g0, 0, none⟩ (.pointer (some ⟨g0, 0, none⟩))).heap[g0]? = some (.cells (List.toArray [.pointer (some ⟨g0, 0, none⟩), v]) 95 (0, 0)) := by
    simp [World.setCell, Array.getElem?_modify, hh]
  have hoth : ∀ b, b ≠ g0 → (w.setCell ⟨g0, 0, none⟩ (.pointer (some ⟨g0, 0, none⟩))).heap[b]? = w.heap[b]? := fun b hb => Below.heap_setCell _ _ _ _ (fun e => hb (by first | exact e | exact e.symm))
  have hsz : w.heap.size ≤ (w.setCell ⟨g0, 0, none⟩ (.pointer (some ⟨g0, 0, none⟩))).heap.size := by simp
  have he : (w.setCell ⟨g0, 0, none⟩ (.pointer (some ⟨g0, 0, none⟩))).os = w.os ∧ (w.setCell ⟨g0, 0, none⟩ (.pointer (some ⟨g0, 0, none⟩))).tape = w.tape ∧ (w.setCell ⟨g0, 0, none⟩ (.pointer (some ⟨g0, 0, none⟩))).output = w.output := ⟨rfl, rfl, rfl⟩
  generalize w.setCell ⟨g0, 0, none⟩ (.pointer (some ⟨g0, 0, none⟩)) = W at *
  have hk : Keep χ w χ W := fun b hb hi => ⟨hi, hoth b fun e => by rw [e, hc] at hi; cases hi⟩
  refine ⟨_, _, _, χ, G, ⟨rfl, rfl⟩, rfl, ⟨[], rfl, rfl⟩, ?_, ⟨he.1, he.2.1, he.2.2, hsz, fun b hb hi => hk b hb hi, fun b hb hi => ⟨hi, hoth b fun e => by rw [e, hc] at hi; cases hi⟩⟩, Nat.le_refl _, fun o ho => ⟨fun g h => h, fun n hd hh => ⟨n, hd, hh, Nat.le_refl _, fun _ => rfl⟩⟩, hG⟩
  intro o ob ho
  match o, ho with
  | 0, ho =>
    cases ho
    exact ⟨g0, [_, v], hg0, hc, hself, _, _, rfl, rfl, ⟨g0, hg0, rfl⟩, v, [], rfl, ho1, RS.mono hk (GGo.refl _) (.vref 1 n) v hv, rfl⟩
  | 1, ho =>
    exact RO.mono hk (GGo.refl _) rfl (fun b hlt hcb => ⟨hcb, hoth b fun e => by rw [e, hc] at hcb; cases hcb⟩) (hst 1 ob ho)
  | o + 2, ho => simp at ho
theorem ccU_ok (n : Nat) (nl : Bool) (xs : List PV) : CallOk Tryz.prog 97 [.ptr 0 0] [.cells 95 [.ptr 0 0, .vref 1 n], .vec n 5 1 nl xs]
    fun r st' => r = .tup [] ∧ st' = [.cells 95 [.ptr 0 0, .vref 1 n], .vec n 5 1 nl xs] := by
  intro χ G w vs hgl hargs hst hG
  obtain ⟨u, r, rfl, ⟨g0, hg0, rfl⟩, hr⟩ := hargs
  have hr : r = [] := hr
  subst hr
  obtain ⟨g, us, hg, hc, hh, hcl⟩ := hst 0 _ rfl
  rw [hg0] at hg
  cases hg
  obtain ⟨u0, r, rfl, ho0, ⟨g1, hg1, rfl⟩, hr⟩ := hcl
  rw [hg0] at hg1
  cases hg1
  obtain ⟨v, r2, rfl, ho1, hv, hr2⟩ := hr
  have hr2 : r2 = [] := hr2
  subst hr2
  have hcell : w.cell? ⟨g0, 0, none⟩ = some (.pointer (some ⟨g0, 0, none⟩)) := by simp [World.cell?, hh]
  refine .inl ⟨fnCc, (ccUsed g0 w hcell).mono ?_⟩
  rintro e w' ⟨rfl, rfl⟩
  exact ⟨_, _, _, χ, G, ⟨rfl, rfl⟩, rfl, ⟨[], rfl, rfl⟩, hst, ⟨rfl, rfl, rfl, Nat.le_refl _, fun b hb hi => ⟨hi, rfl⟩, fun b hb hi => ⟨hi, rfl⟩⟩, Nat.le_refl _, fun o ho => ⟨fun g h => h, fun n hd hh => ⟨n, hd, hh, Nat.le_refl _, fun _ => rfl⟩⟩, hG⟩

/-- A text's bytes as values. -/
abbrev u8b (s : ByteArray) : List PV := s.data.toList.map fun c => .val (.int .u8 c.toNat)
theorem u8b_append (a b : ByteArray) : u8b a ++ u8b b = u8b (a ++ b) := by simp [u8b, ByteArray.data_append]
abbrev wrU (n : Nat) (nl : Bool) (out : List PV) : List Ob := [.cells 95 [.ptr 0 0, .vref 1 n], .vec n 5 1 nl out]
abbrev wrF (n : Nat) (nl : Bool) (out : List PV) : List Ob := [.cells 95 [nilP, .vref 1 n], .vec n 5 1 nl out]
theorem wsU_ok (n : Nat) (nl : Bool) (xs : List PV) (s : ByteArray) (h : xs.length + s.size ≤ 140737488355328) : CallOk Tryz.prog 75 [.ptr 0 0, vS s] (wrU n nl xs)
    fun r st' => (∃ v, r = .tup [vI .i64 s.size, .pure (.val v)]) ∧ st' = wrU (n + 1) (nl && s.data.toList.isEmpty) (xs ++ u8b s) := by
  refine callOk_of false 2 Tryz.func75 rfl (by kernel_rfl) (Nat.le_refl _) ?_
  conv => whnf
  repeat (first | (refine rest_vc ?_; conv => whnf) | (refine ⟨by decide, ?_⟩; conv => whnf))
  refine CallIn.o [0, 1] (ccU_ok n nl xs) (k := ?_)
  rintro r st' ⟨rfl, rfl⟩
  conv => whnf
  repeat (first | (refine rest_vc ?_; conv => whnf) | (refine ⟨by decide, ?_⟩; conv => whnf))
  refine must_nn rfl ?_
  refine ⟨by exact h, ?_⟩
  conv => whnf
  repeat (first | (refine rest_vc ?_; conv => whnf) | (refine ⟨by decide, ?_⟩; conv => whnf))
  exact ⟨⟨_, rfl⟩, rfl⟩
theorem wsF_ok (n : Nat) (nl : Bool) (xs : List PV) (s : ByteArray) (h : xs.length + s.size ≤ 140737488355328) : CallOk Tryz.prog 75 [.ptr 0 0, vS s] (wrF n nl xs)
    fun r st' => (∃ v, r = .tup [vI .i64 s.size, .pure (.val v)]) ∧ st' = wrU (n + 1) (nl && s.data.toList.isEmpty) (xs ++ u8b s) := by
  refine callOk_of false 2 Tryz.func75 rfl (by kernel_rfl) (Nat.le_refl _) ?_
  conv => whnf
  repeat (first | (refine rest_vc ?_; conv => whnf) | (refine ⟨by decide, ?_⟩; conv => whnf))
  refine CallIn.o [0, 1] (ccF_ok n nl xs) (k := ?_)
  rintro r st' ⟨rfl, rfl⟩
  conv => whnf
  repeat (first | (refine rest_vc ?_; conv => whnf) | (refine ⟨by decide, ?_⟩; conv => whnf))
  refine must_nn rfl ?_
  refine ⟨by exact h, ?_⟩
  conv => whnf
  repeat (first | (refine rest_vc ?_; conv => whnf) | (refine ⟨by decide, ?_⟩; conv => whnf))
  exact ⟨⟨_, rfl⟩, rfl⟩

/-! ## a line -/
abbrev nlB : ByteArray := ⟨#[10]⟩
def lineB (l : List ByteArray) : ByteArray := joinB l ++ nlB
theorem joinB_size (l : List ByteArray) : (joinB l).size = (Lib.join (l.map (·.data.toList)) [32]).length := by
  show (Lib.join (l.map (·.data.toList)) [32]).toArray.size = _
  simp
theorem lineB_size (l : List ByteArray) : (lineB l).size = (joinB l).size + 1 := by
  unfold lineB
  rw [ByteArray.size_append]
  rfl
theorem lineU_ok (n : Nat) (m : Bool) (nl : Bool) (xs : List PV) (l : List ByteArray) (hl : l.length ≤ 1000) (hlen : (Lib.join (l.map (·.data.toList)) [32]).length ≤ 100000000) (h : xs.length ≤ 1000000000) :
    CallOk Tryz.prog 44 [.ptr 0 0, .pure (.list 1 m (l.map pvB))] (wrU n nl xs) fun r st' => r = .tup [] ∧ st' = wrU (n + 1) false (xs ++ u8b (lineB l)) := by
  have hjs := joinB_size l
  have hls := lineB_size l
  have hne : (lineB l).data.toList.isEmpty = false := by
    rw [Bool.eq_false_iff]
    intro e
    have : (lineB l).size = 0 := by show (lineB l).data.size = 0; rw [← Array.length_toList, List.isEmpty_iff.1 e]; rfl
    omega
  refine callOk_of false 2 Tryz.func44 rfl (by kernel_rfl) (Nat.le_refl _) ?_
  refine hand_draw [6] (fun i r => r = vS (joinB l)) rfl (by kernel_rfl) rfl ?_
  conv => whnf
  repeat (first | (refine rest_vc ?_; conv => whnf) | (refine ⟨by decide, ?_⟩; conv => whnf))
  refine CallIn.dto (join_ok m l hl hlen) (k := ?_)
  conv => whnf
  repeat (first | (refine rest_vc ?_; conv => whnf) | (refine ⟨by decide, ?_⟩; conv => whnf))
  refine ⟨by show (((joinB l).size + 1 : Nat) : Int) ≤ _; omega, ?_⟩
  conv => whnf
  repeat (first | (refine rest_vc ?_; conv => whnf) | (refine ⟨by decide, ?_⟩; conv => whnf))
  refine CallIn.o [0, 1] (wsU_ok n nl xs (lineB l) (by omega)) (k := ?_)
  rintro r st' ⟨⟨v, rfl⟩, rfl⟩
  conv => whnf
  repeat (first | (refine rest_vc ?_; conv => whnf) | (refine ⟨by decide, ?_⟩; conv => whnf))
  refine ⟨rfl, ?_⟩
  show wrU (n + 1) (nl && (lineB l).data.toList.isEmpty) (xs ++ u8b (lineB l)) = _
  rw [hne, Bool.and_false]
theorem lineF_ok (n : Nat) (m : Bool) (nl : Bool) (xs : List PV) (l : List ByteArray) (hl : l.length ≤ 1000) (hlen : (Lib.join (l.map (·.data.toList)) [32]).length ≤ 100000000) (h : xs.length ≤ 1000000000) :
    CallOk Tryz.prog 44 [.ptr 0 0, .pure (.list 1 m (l.map pvB))] (wrF n nl xs) fun r st' => r = .tup [] ∧ st' = wrU (n + 1) false (xs ++ u8b (lineB l)) := by
  have hjs := joinB_size l
  have hls := lineB_size l
  have hne : (lineB l).data.toList.isEmpty = false := by
    rw [Bool.eq_false_iff]
    intro e
    have : (lineB l).size = 0 := by show (lineB l).data.size = 0; rw [← Array.length_toList, List.isEmpty_iff.1 e]; rfl
    omega
  refine callOk_of false 2 Tryz.func44 rfl (by kernel_rfl) (Nat.le_refl _) ?_
  refine hand_draw [6] (fun i r => r = vS (joinB l)) rfl (by kernel_rfl) rfl ?_
  conv => whnf
  repeat (first | (refine rest_vc ?_; conv => whnf) | (refine ⟨by decide, ?_⟩; conv => whnf))
  refine CallIn.dto (join_ok m l hl hlen) (k := ?_)
  conv => whnf
  repeat (first | (refine rest_vc ?_; conv => whnf) | (refine ⟨by decide, ?_⟩; conv => whnf))
  refine ⟨by show (((joinB l).size + 1 : Nat) : Int) ≤ _; omega, ?_⟩
  conv => whnf
  repeat (first | (refine rest_vc ?_; conv => whnf) | (refine ⟨by decide, ?_⟩; conv => whnf))
  refine CallIn.o [0, 1] (wsF_ok n nl xs (lineB l) (by omega)) (k := ?_)
  rintro r st' ⟨⟨v, rfl⟩, rfl⟩
  conv => whnf
  repeat (first | (refine rest_vc ?_; conv => whnf) | (refine ⟨by decide, ?_⟩; conv => whnf))
  refine ⟨rfl, ?_⟩
  show wrU (n + 1) (nl && (lineB l).data.toList.isEmpty) (xs ++ u8b (lineB l)) = _
  rw [hne, Bool.and_false]
end Go.Proofs.YtafngalmkblipaaGreatDoor
/- law10: what a writer of lines holds. -/
set_option linter.all false
set_option maxHeartbeats 4000000
set_option maxRecDepth 100000
namespace Go.Proofs.YtafngalmkblipaaGreatDoor
open Go Go.RowKit Go.Sy Go.Proofs Go.Sort

theorem strRow (b g cap : Nat) (p : Value) (cur : Array Value) (l : List UInt8) (w : World) (hbk : w.heap[b]? = some (.cells #[p, .slice (some ⟨g, 0, none⟩) l.length cap] 95 (0, 0))) (hg : w.heap[g]? = some (.cells cur 5 (0, 0)))
    (h0 : l ≠ []) (hnc : l.length ≤ cap) (hcm : cap ≤ maxLen) (hcs : cur.size = cap) (hc : ∀ (j : Nat) (x : UInt8), l[j]? = some x → cur[j]? = some (Value.int .u8 (x.toNat : Int))) :
    Calls Tryz.prog 51 #[.pointer (some ⟨b, 0, none⟩)] w fun e w' => e = .returned (.string ⟨l.toArray⟩) ∧ w' = w.drew.freeze ⟨g, 0, none⟩ l.length := by
  have hl0 : l.length ≠ 0 := by simpa using h0
  have c1 : w.drew.cell? ⟨b, 1, none⟩ = some (.slice (some ⟨g, 0, none⟩) l.length cap) := by
    have : w.drew.heap[b]? = some (.cells #[p, .slice (some ⟨g, 0, none⟩) l.length cap] 95 (0, 0)) := hbk
    rw [Lib.cell_of_heap this]; rfl
  have hSD : (Builtin.unsafeSliceData_ #[38] 138 #[.slice (some ⟨g, 0, none⟩) l.length cap]).run Tryz.prog w.drew = .ok (.pointer (some ⟨g, 0, none⟩)) w.drew :=
    Lib.run_unsafeSliceData_row _ _ _ _ _ _ (by omega)
  have hUS : (Builtin.unsafeString_ #[138, 3] 9 #[.pointer (some ⟨g, 0, none⟩), .int .i64 l.length]).run Tryz.prog w.drew = .ok (.string ⟨l.toArray⟩) (w.drew.freeze ⟨g, 0, none⟩ l.length) := by
    refine Lib.run_unsafeString_row w.drew 138 3 9 5 Tryz.underlying138 (by kernel_rfl) g cur.size (by have hg' : w.drew.heap[g]? = some (.cells cur 5 (0, 0)) := hg; simp [World.shape?, hg']) l h0 (by omega) (by unfold maxLen at hcm; omega) ?_
    intro j x hx
    have hg' : w.drew.heap[g]? = some (.cells cur 5 (0, 0)) := hg
    exact cell_of_heap hg' (hc j x hx)
  go_enter Tryz.func51, Tryz.ntmps51
  go_wp2
  go_region
  all_goals (go_wp2; go_ret; exact ⟨rfl, rfl⟩)
theorem strNil (b : Nat) (p : Value) (w : World) (hbk : w.heap[b]? = some (.cells #[p, .slice none 0 0] 95 (0, 0))) :
    Calls Tryz.prog 51 #[.pointer (some ⟨b, 0, none⟩)] w fun e w' => e = .returned (.string .empty) ∧ w' = w.drew := by
  have c1 : w.drew.cell? ⟨b, 1, none⟩ = some (.slice none 0 0) := by
    have : w.drew.heap[b]? = some (.cells #[p, .slice none 0 0] 95 (0, 0)) := hbk
    rw [Lib.cell_of_heap this]; rfl
  have hSD : (Builtin.unsafeSliceData_ #[38] 138 #[.slice none 0 0]).run Tryz.prog w.drew = .ok (.pointer none) w.drew := rfl
  have hUS : (Builtin.unsafeString_ #[138, 3] 9 #[.pointer none, .int .i64 0]).run Tryz.prog w.drew = .ok (.string .empty) w.drew := Lib.run_unsafeString_none w.drew _ _ _ none
  go_enter Tryz.func51, Tryz.ntmps51
  go_wp2
  go_region
  all_goals (go_wp2; go_ret; exact ⟨rfl, rfl⟩)
theorem fnStr : isFn Tryz.prog 51 := ⟨_, Tryz.func51, rfl, by kernel_rfl⟩
theorem RF_u8 {χ : Nat → Color} {w : World} : ∀ {l : List UInt8} {us : List Value}, RF χ w 1 (l.map fun c => .val (.int .u8 c.toNat)) us → us = l.map fun c => Value.int .u8 c.toNat
  | [], us, h => h
  | x :: l, us, ⟨u, r, h1, h2, h3, h4, h5⟩ => by
    have h4 : u = .int .u8 x.toNat := h4
    subst h4
    rw [h1, RF_u8 h5]
    rfl
theorem freeze_other (w : World) (g n b : Nat) (hb : b ≠ g) : (w.freeze ⟨g, 0, none⟩ n).heap[b]? = w.heap[b]? := by
  unfold World.freeze
  split
  · rfl
  · simp only [Array.getElem?_modify]
    rw [if_neg (fun e => hb e.symm)]
theorem freeze_same (w : World) (g n : Nat) : (w.freeze ⟨g, 0, none⟩ n).os = w.os ∧ (w.freeze ⟨g, 0, none⟩ n).tape = w.tape ∧ (w.freeze ⟨g, 0, none⟩ n).output = w.output ∧ w.heap.size ≤ (w.freeze ⟨g, 0, none⟩ n).heap.size := by
  unfold World.freeze
  split
  · exact ⟨rfl, rfl, rfl, Nat.le_refl _⟩
  · exact ⟨rfl, rfl, rfl, by simp⟩
theorem strU_ok (n : Nat) (s : ByteArray) (hs : s.data.toList ≠ []) : CallOk Tryz.prog 51 [.ptr 0 0] (wrU n false (u8b s))
    fun r st' => r = vS s ∧ st' = [.cells 95 [.ptr 0 0, .vref 1 n], .gone] := by
  intro χ G w vs hgl hargs hst hG
  obtain ⟨u, r, rfl, ⟨g0, hg0, rfl⟩, hr⟩ := hargs
  have hr : r = [] := hr
  subst hr
  have hst0 := hst 0 _ rfl
  obtain ⟨g, us, hg, hc, hh, hcl⟩ := hst0
  rw [hg0] at hg
  cases hg
  obtain ⟨u0, r, rfl, ho0, ⟨g1, hg1, rfl⟩, hr⟩ := hcl
  rw [hg0] at hg1
  cases hg1
  obtain ⟨v, r2, rfl, ho1, ⟨_, m, hd, hG1, hle, hv⟩, hr2⟩ := hr
  have hr2 : r2 = [] := hr2
  subst hr2
  obtain ⟨hd', us, hG1', hown, hf, hnl, hcol⟩ := hst 1 _ rfl
  rw [hG1] at hG1'
  cases hG1'
  have hv := hv rfl
  subst hv
  have hus := RF_u8 hf
  subst hus
  obtain ⟨L, hL⟩ : ∃ L, L = s.data.toList := ⟨_, rfl⟩
  have hsL : (⟨L.toArray⟩ : ByteArray) = s := by rw [hL]
  unfold u8b at hown hf
  rw [← hL] at hs hown hf
  rw [List.length_map] at hown
  have hlp : L.length ≠ 0 := by simpa using hs
  obtain ⟨hown1, hrow⟩ := hown
  rcases hrow with ⟨_, h0⟩ | ⟨g, c, cur, rfl, hbase, hb, h1, h2, h3, h4⟩
  · exact absurd h0 hlp
  have hcg : χ g = .own 1 := hcol g rfl
  have hget : ∀ (j : Nat) (x : UInt8), L[j]? = some x → cur[j]? = some (Value.int .u8 (x.toNat : Int)) := fun j x hx => by
    have hjl := (List.getElem?_eq_some_iff.1 hx).1
    have := congrArg (fun l => l[j]?) h4
    simp only [List.getElem?_take, if_pos (show j < L.length * 1 by omega), List.getElem?_map, hx] at this
    simpa using this
  refine .inl ⟨fnStr, (strRow g0 g c _ cur L w hh hb hs h1 h2 (by omega) hget).mono ?_⟩
  rintro e w' ⟨rfl, rfl⟩
  obtain ⟨e1, e2, e3, e4⟩ := freeze_same w.drew g L.length
  have hoth : ∀ b, b ≠ g → (w.drew.freeze ⟨g, 0, none⟩ L.length).heap[b]? = w.heap[b]? := fun b hb => freeze_other w.drew g _ b hb
  have e4 : w.heap.size ≤ (w.drew.freeze ⟨g, 0, none⟩ L.length).heap.size := e4
  generalize w.drew.freeze ⟨g, 0, none⟩ L.length = W at *
  have hk : Keep χ w χ W := fun b hb hi => ⟨hi, hoth b fun e => by rw [e, hcg] at hi; cases hi⟩
  rw [hsL]
  refine ⟨_, _, _, χ, G, ⟨rfl, rfl⟩, rfl, rfl, ?_, ⟨e1, e2, e3, e4, fun b hb hi => hk b hb hi, fun b hb hi => ⟨hi, hoth b fun e => by rw [e, hcg] at hi; cases hi⟩⟩, Nat.le_refl _, fun o ho => ⟨fun g h => h, fun n hd hh => ⟨n, hd, hh, Nat.le_refl _, fun _ => rfl⟩⟩, hG⟩
  intro o ob ho
  match o, ho with
  | 0, ho =>
    cases ho
    exact RO.mono hk (GGo.refl _) rfl (fun b hlt hcb => ⟨hcb, hoth b fun e => by rw [e, hcg] at hcb; cases hcb⟩) (hst 0 _ rfl)
  | 1, ho => cases ho; trivial
  | o + 2, ho => simp at ho
theorem strF_ok (n : Nat) : CallOk Tryz.prog 51 [.ptr 0 0] (wrF n true [])
    fun r st' => r = vS .empty ∧ st' = wrF n true [] := by
  intro χ G w vs hgl hargs hst hG
  obtain ⟨u, r, rfl, ⟨g0, hg0, rfl⟩, hr⟩ := hargs
  have hr : r = [] := hr
  subst hr
  obtain ⟨g, us, hg, hc, hh, hcl⟩ := hst 0 _ rfl
  rw [hg0] at hg
  cases hg
  obtain ⟨u0, r, rfl, ho0, hu0, hr⟩ := hcl
  obtain ⟨v, r2, rfl, ho1, ⟨_, m, hd, hG1, hle, hv⟩, hr2⟩ := hr
  have hr2 : r2 = [] := hr2
  subst hr2
  obtain ⟨hd', us, hG1', hown, hf, hnl, hcol⟩ := hst 1 _ rfl
  rw [hG1] at hG1'
  cases hG1'
  have hv := hv rfl
  subst hv
  have hnil := hnl.1 rfl
  subst hnil
  refine .inl ⟨fnStr, (strNil g0 _ w hh).mono ?_⟩
  rintro e w' ⟨rfl, rfl⟩
  refine ⟨_, _, _, χ, G, ⟨rfl, rfl⟩, rfl, rfl, ?_, ⟨rfl, rfl, rfl, Nat.le_refl _, fun b hb hi => ⟨hi, rfl⟩, fun b hb hi => ⟨hi, rfl⟩⟩, Nat.le_refl _, fun o ho => ⟨fun g h => h, fun n hd hh => ⟨n, hd, hh, Nat.le_refl _, fun _ => rfl⟩⟩, hG⟩
  exact fun o ob ho => RO.mono (χ := χ) (w := w) (w' := w.drew) (fun b hb hi => ⟨hi, rfl⟩) (GGo.refl _) rfl (fun b hlt hcb => ⟨hcb, rfl⟩) (hst o ob ho)
end Go.Proofs.YtafngalmkblipaaGreatDoor
/- law10: bytes as digits; numbers; lines of the reference. -/
set_option linter.all false
set_option maxHeartbeats 4000000
set_option maxRecDepth 100000
namespace Go.Proofs.YtafngalmkblipaaGreatDoor
open Go Go.RowKit Go.Sy Go.Proofs Go.Sort

abbrev digs : ByteArray := ⟨#[48, 49, 50, 51, 52, 53, 54, 55, 56, 57, 97, 98, 99, 100, 101, 102]⟩
def hexd (k : Int) : Int := byteAt digs k.toNat
def hexL (l : List Int) : List Int := l.flatMap fun y => [hexd (y / 16), hexd (y % 16)]
theorem hexL_length : ∀ (l : List Int), (hexL l).length = 2 * l.length
  | [] => rfl
  | x :: l => by
    show ([_, _] ++ hexL l).length = _
    rw [List.length_append, hexL_length l]
    simp only [List.length_cons, List.length_nil]
    omega
theorem hexL_snoc (l : List Int) (y : Int) : hexL (l ++ [y]) = hexL l ++ [hexd (y / 16), hexd (y % 16)] := by simp [hexL]
theorem and15 : ∀ n : Nat, n < 256 → iAnd .u8 (n : Int) 15 = ((n % 16 : Nat) : Int) := by
  have h : ((List.range 256).all fun n => iAnd .u8 (n : Int) 15 == ((n % 16 : Nat) : Int)) = true := by kernel_rfl
  intro n hn
  have := List.all_eq_true.1 h n (List.mem_range.2 hn)
  simpa using this
theorem shr4 {y : Int} (h0 : 0 ≤ y) (h1 : y < 256) : iShr .u8 y 4 = y / 16 := by
  unfold iShr
  have : (2 : Int) ^ (min (4 : Int).toNat IntKind.u8.bits) = 16 := by decide
  rw [this, Int.fdiv_eq_ediv_of_nonneg _ (by omega)]
theorem and15' {y : Int} (h0 : 0 ≤ y) (h1 : y < 256) : iAnd .u8 y 15 = y % 16 := by
  obtain ⟨n, rfl⟩ := Int.eq_ofNat_of_zero_le h0
  rw [and15 n (by omega)]
  omega
abbrev hexB (l : List Int) : ByteArray := strOfNums (hexL l)
theorem hex_ok (nl : Bool) (l : List Int) (hl : l.length ≤ 1000) (hb : ∀ x ∈ l, 0 ≤ x ∧ x < 256) : CallOk Tryz.prog 50 [.pure (.list 1 nl (u8s l))] [] fun r st' => st' = [] ∧ r = vS (hexB l) := by
  have hll : (u8s l).length = l.length := List.length_map ..
  refine callOk_of false 0 Tryz.func50 rfl rfl (Nat.le_refl _) ?_
  conv => whnf
  repeat (first | (refine rest_vc ?_; conv => whnf) | (refine ⟨by decide, ?_⟩; conv => whnf))
  intro _
  conv => whnf
  repeat (first | (refine rest_vc ?_; conv => whnf) | (refine ⟨by decide, ?_⟩; conv => whnf))
  refine hand_ghost 3 5 1 rfl ?_
  refine awp_loop (n := 24) (α := Nat) (fun i => i ≤ l.length) (fun i => [(3, .vref 0 0), (6, .pure (.list 1 nl (u8s l))), (7, vI .i64 (l.length : Nat)), (8, vI .i64 i)])
    (fun i => [.vec 0 5 1 (u8s (hexL (l.take i))).isEmpty (u8s (hexL (l.take i)))]) (fun i => l.length - i) 0 (fun _ => 0)
    (Nat.zero_le _) rfl ⟨rfl, rfl, congrArg (vI .i64) (by rw [hll]), rfl, trivial⟩ rfl (fun _ _ => rfl) (fun _ => ⟨(by show 0 ≤ 1; omega), rfl, rfl⟩) ?_
  rintro i hi
  conv => whnf
  repeat (first | (refine rest_vc ?_; conv => whnf) | (refine ⟨by decide, ?_⟩; conv => whnf))
  split <;> rename_i h2 <;> (conv => whnf) <;> repeat (first | (refine rest_vc ?_; conv => whnf) | (refine ⟨by decide, ?_⟩; conv => whnf))
  · have hlt : i < l.length := by have : (i : Int) < (l.length : Int) := of_decide_eq_true h2; omega
    have hget : l[i]? = some l[i] := List.getElem?_eq_getElem hlt
    obtain ⟨y, hy⟩ : ∃ y, y = l[i] := ⟨_, rfl⟩
    rw [← hy] at hget
    have hld : ∀ q, (u8s l)[(i : Int).toNat]? = some q → PV.val (.int .u8 y) = q := fun q hq => by
      unfold u8s at hq
      rw [Int.toNat_natCast, List.getElem?_map, hget] at hq
      exact Option.some.inj hq
    refine ⟨⟨by omega, by rw [hll]; omega⟩, fun q hq => ?_⟩
    obtain rfl := hld q hq
    conv => whnf
    repeat (first | (refine rest_vc ?_; conv => whnf) | (refine ⟨by decide, ?_⟩; conv => whnf))
    have hy0 := hb y (by rw [hy]; exact List.getElem_mem hlt)
    have e1 := shr4 hy0.1 hy0.2
    have e2 := and15' hy0.1 hy0.2
    have htl : (u8s (hexL (l.take i))).length ≤ 2000 := by
      unfold u8s
      rw [List.length_map, hexL_length, List.length_take]
      omega
    refine hand_draw [8] (fun _ _ => True) rfl (by kernel_rfl) rfl ?_
    conv => whnf
    repeat (first | (refine rest_vc ?_; conv => whnf) | (refine ⟨by decide, ?_⟩; conv => whnf))
    refine ⟨⟨by rw [e1]; omega, by rw [e1]; show y / 16 < (16 : Int); omega⟩, ?_⟩
    conv => whnf
    repeat (first | (refine rest_vc ?_; conv => whnf) | (refine ⟨by decide, ?_⟩; conv => whnf))
    refine ⟨⟨by rw [e2]; omega, by rw [e2]; show y % 16 < (16 : Int); omega⟩, ?_⟩
    conv => whnf
    repeat (first | (refine rest_vc ?_; conv => whnf) | (refine ⟨by decide, ?_⟩; conv => whnf))
    refine ⟨by exact Nat.le_trans (Nat.mul_le_mul_right _ (Nat.add_le_add_right htl 2)) (by decide), ?_⟩
    conv => whnf
    repeat (first | (refine rest_vc ?_; conv => whnf) | (refine ⟨by decide, ?_⟩; conv => whnf))
    have e3 : u8s (hexL (l.take (i + 1))) = u8s (hexL (l.take i)) ++ [.val (.int .u8 (byteAt digs (iShr .u8 y 4).toNat)), .val (.int .u8 (byteAt digs (iAnd .u8 y 15).toNat))] := by
      rw [List.take_add_one, hget, e1, e2]
      show u8s (hexL (l.take i ++ [y])) = _
      rw [hexL_snoc]
      simp [u8s, hexd]
    have e4 : (u8s (hexL (l.take (i + 1)))).isEmpty = ((u8s (hexL (l.take i))).isEmpty && false) := by rw [e3]; simp
    refine ⟨i + 1, fun o => if o = 0 then 1 else 0, hlt, by omega, rfl, ⟨rfl, rfl, rfl, congrArg (vI .i64) (succ64 (by omega)), trivial⟩, ?_, fun o ho => absurd ho (Nat.not_lt_zero _)⟩
    rw [e4, e3]
    rfl
  · have hil : i = l.length := by have : ¬ (i : Int) < (l.length : Int) := of_decide_eq_false h2; omega
    subst hil
    rw [List.take_length]
    refine ⟨⟨hexL l, rfl⟩, fun l' hl' => ?_⟩
    obtain rfl := u8s_inj hl'
    conv => whnf
    repeat (first | (refine rest_vc ?_; conv => whnf) | (refine ⟨by decide, ?_⟩; conv => whnf))
    exact ⟨rfl, rfl⟩
theorem rhex_ok (nl : Bool) (l : List Int) (hl : l.length ≤ 1000) (hb : ∀ x ∈ l, 0 ≤ x ∧ x < 256) : CallOk Tryz.prog 54 [.pure (.list 1 nl (u8s l))] [] fun r st' => st' = [] ∧ r = vS (hexB l) := by
  have hll : (u8s l).length = l.length := List.length_map ..
  refine callOk_of false 0 Tryz.func54 rfl rfl (Nat.le_refl _) ?_
  conv => whnf
  repeat (first | (refine rest_vc ?_; conv => whnf) | (refine ⟨by decide, ?_⟩; conv => whnf))
  refine hand_ghost 3 5 1 rfl ?_
  refine awp_loop (n := 28) (α := Nat) (fun i => i ≤ l.length) (fun i => [(0, .pure (.list 1 nl (u8s l))), (3, .vref 0 0), (4, vI .i64 i)])
    (fun i => [.vec 0 5 1 (u8s (hexL (l.take i))).isEmpty (u8s (hexL (l.take i)))]) (fun i => l.length - i) 0 (fun _ => 0)
    (Nat.zero_le _) rfl ⟨rfl, rfl, rfl, trivial⟩ rfl (fun _ _ => rfl) (fun _ => ⟨(by show 0 ≤ 1; omega), rfl, rfl⟩) ?_
  rintro i hi
  conv => whnf
  repeat (first | (refine rest_vc ?_; conv => whnf) | (refine ⟨by decide, ?_⟩; conv => whnf))
  intro _
  conv => whnf
  repeat (first | (refine rest_vc ?_; conv => whnf) | (refine ⟨by decide, ?_⟩; conv => whnf))
  split <;> rename_i h2 <;> (conv => whnf) <;> repeat (first | (refine rest_vc ?_; conv => whnf) | (refine ⟨by decide, ?_⟩; conv => whnf))
  · have hlt : i < l.length := by have : (i : Int) < ((u8s l).length : Int) := of_decide_eq_true h2; omega
    have hget : l[i]? = some l[i] := List.getElem?_eq_getElem hlt
    obtain ⟨y, hy⟩ : ∃ y, y = l[i] := ⟨_, rfl⟩
    rw [← hy] at hget
    have hld : ∀ q, (u8s l)[(i : Int).toNat]? = some q → PV.val (.int .u8 y) = q := fun q hq => by
      unfold u8s at hq
      rw [Int.toNat_natCast, List.getElem?_map, hget] at hq
      exact Option.some.inj hq
    have hy0 := hb y (by rw [hy]; exact List.getElem_mem hlt)
    have e1 : IntKind.u8.wrap (y.tdiv 16) = y / 16 := by
      rw [Int.tdiv_eq_ediv_of_nonneg hy0.1]
      have : 0 ≤ y / 16 ∧ y / 16 < 16 := by omega
      unfold IntKind.wrap
      simp [IntKind.signed, IntKind.bits]
      omega
    have e2 : y.tmod 16 = y % 16 := Int.tmod_eq_emod_of_nonneg hy0.1
    have htl : (u8s (hexL (l.take i))).length ≤ 2000 := by
      unfold u8s
      rw [List.length_map, hexL_length, List.length_take]
      omega
    refine hand_draw [14] (fun _ _ => True) rfl (by kernel_rfl) rfl ?_
    conv => whnf
    repeat (first | (refine rest_vc ?_; conv => whnf) | (refine ⟨by decide, ?_⟩; conv => whnf))
    refine ⟨⟨by omega, by omega⟩, fun q hq => ?_⟩
    obtain rfl := hld q hq
    conv => whnf
    repeat (first | (refine rest_vc ?_; conv => whnf) | (refine ⟨by decide, ?_⟩; conv => whnf))
    refine ⟨⟨by rw [e1]; omega, by rw [e1]; show y / 16 < (16 : Int); omega⟩, ?_⟩
    conv => whnf
    repeat (first | (refine rest_vc ?_; conv => whnf) | (refine ⟨by decide, ?_⟩; conv => whnf))
    refine ⟨⟨by omega, by omega⟩, fun q hq => ?_⟩
    obtain rfl := hld q hq
    conv => whnf
    repeat (first | (refine rest_vc ?_; conv => whnf) | (refine ⟨by decide, ?_⟩; conv => whnf))
    refine ⟨⟨by rw [e2]; omega, by rw [e2]; show y % 16 < (16 : Int); omega⟩, ?_⟩
    conv => whnf
    repeat (first | (refine rest_vc ?_; conv => whnf) | (refine ⟨by decide, ?_⟩; conv => whnf))
    refine ⟨by exact Nat.le_trans (Nat.mul_le_mul_right _ (Nat.add_le_add_right htl 2)) (by decide), ?_⟩
    conv => whnf
    repeat (first | (refine rest_vc ?_; conv => whnf) | (refine ⟨by decide, ?_⟩; conv => whnf))
    have e3 : u8s (hexL (l.take (i + 1))) = u8s (hexL (l.take i)) ++ [.val (.int .u8 (byteAt digs (IntKind.u8.wrap (y.tdiv 16)).toNat)), .val (.int .u8 (byteAt digs (y.tmod 16).toNat))] := by
      rw [List.take_add_one, hget, e1, e2]
      show u8s (hexL (l.take i ++ [y])) = _
      rw [hexL_snoc]
      simp [u8s, hexd]
    have e4 : (u8s (hexL (l.take (i + 1)))).isEmpty = ((u8s (hexL (l.take i))).isEmpty && false) := by rw [e3]; simp
    refine ⟨i + 1, fun o => if o = 0 then 1 else 0, hlt, by omega, rfl, ⟨rfl, rfl, congrArg (vI .i64) (succ64 (by omega)), trivial⟩, ?_, fun o ho => absurd ho (Nat.not_lt_zero _)⟩
    rw [e4, e3]
    rfl
  · have hil : i = l.length := by have : ¬ (i : Int) < ((u8s l).length : Int) := of_decide_eq_false h2; omega
    subst hil
    rw [List.take_length]
    refine ⟨⟨hexL l, rfl⟩, fun l' hl' => ?_⟩
    obtain rfl := u8s_inj hl'
    conv => whnf
    repeat (first | (refine rest_vc ?_; conv => whnf) | (refine ⟨by decide, ?_⟩; conv => whnf))
    exact ⟨rfl, rfl⟩

/-! ## numbers and lines of the reference -/
theorem number_ok (n : Int) (h0 : -9223372036854775808 ≤ n) (h1 : n ≤ 9223372036854775807) : CallOk Tryz.prog 53 [vI .i64 n] [] fun r st' => st' = [] ∧ r = vS (itoaB n) := by
  refine callOk_of false 0 Tryz.func53 rfl rfl (Nat.le_refl _) ?_
  conv => whnf
  repeat (first | (refine rest_vc ?_; conv => whnf) | (refine ⟨by decide, ?_⟩; conv => whnf))
  refine CallIn.to (itoa_ok n h0 h1) (k := ?_)
  conv => whnf
  repeat (first | (refine rest_vc ?_; conv => whnf) | (refine ⟨by decide, ?_⟩; conv => whnf))
  exact ⟨rfl, rfl⟩
theorem rline_ok (m : Bool) (l : List ByteArray) (hl : l.length ≤ 1000) (hlen : (Lib.join (l.map (·.data.toList)) [32]).length ≤ 100000000) :
    CallOk Tryz.prog 52 [.pure (.list 1 m (l.map pvB))] [] fun r st' => st' = [] ∧ r = vS (lineB l) := by
  have hjs := joinB_size l
  refine callOk_of false 0 Tryz.func52 rfl rfl (Nat.le_refl _) ?_
  conv => whnf
  repeat (first | (refine rest_vc ?_; conv => whnf) | (refine ⟨by decide, ?_⟩; conv => whnf))
  refine CallIn.to (join_ok m l hl hlen) (k := ?_)
  conv => whnf
  repeat (first | (refine rest_vc ?_; conv => whnf) | (refine ⟨by decide, ?_⟩; conv => whnf))
  refine ⟨by show (((joinB l).size + 1 : Nat) : Int) ≤ _; omega, ?_⟩
  conv => whnf
  repeat (first | (refine rest_vc ?_; conv => whnf) | (refine ⟨by decide, ?_⟩; conv => whnf))
  exact ⟨rfl, rfl⟩
end Go.Proofs.YtafngalmkblipaaGreatDoor
/- law10: the text of the reference's book (printed by gen_rtext.py). -/
set_option linter.all false
set_option maxHeartbeats 4000000
set_option maxRecDepth 100000
namespace Go.Proofs.YtafngalmkblipaaGreatDoor
open Go Go.RowKit Go.Sy Go.Proofs

/-! ## lines -/
def txt (o : ByteArray) (L : List (List ByteArray)) : ByteArray := L.foldl (fun o w => o ++ lineB w) o
theorem txt_snoc (o : ByteArray) (L : List (List ByteArray)) (w : List ByteArray) : txt o (L ++ [w]) = txt o L ++ lineB w := by simp [txt, List.foldl_append]
theorem txt_app (o : ByteArray) (L M : List (List ByteArray)) : txt o (L ++ M) = txt (txt o L) M := by simp [txt, List.foldl_append]
def WOk (w : List ByteArray) : Prop := w.length ≤ 6 ∧ ∀ x ∈ w, x.size ≤ 10000
theorem joinTail_len : ∀ (r : List ByteArray), (∀ x ∈ r, x.size ≤ 10000) → (Lib.joinTail [32] (r.map (·.data.toList))).length ≤ r.length * 10001
  | [], _ => by simp [Lib.joinTail]
  | x :: r, h => by
    have h1 := joinTail_len r fun y hy => h y (by simp [hy])
    have h2 : x.data.toList.length ≤ 10000 := by have := h x (by simp); rw [Array.length_toList]; exact this
    unfold Lib.joinTail at h1 ⊢
    simp only [List.map_cons, List.flatten_cons, List.length_append, List.length_cons, List.length_nil] at h1 ⊢
    omega
theorem join_len (l : List ByteArray) (h : WOk l) : (Lib.join (l.map (·.data.toList)) [32]).length ≤ 60006 := by
  obtain ⟨h1, h2⟩ := h
  cases l with
  | nil => rw [List.map_nil, Lib.join_nil]; decide
  | cons x r =>
    rw [List.map_cons, Lib.join_cons, List.length_append]
    have h3 := joinTail_len r fun y hy => h2 y (by simp [hy])
    have h4 : x.data.toList.length ≤ 10000 := by have := h2 x (by simp); rw [Array.length_toList]; exact this
    rw [List.length_cons] at h1
    omega
theorem lineB_le (l : List ByteArray) (h : WOk l) : (lineB l).size ≤ 60007 := by
  rw [lineB_size, joinB_size]
  have := join_len l h
  omega
theorem txt_le : ∀ (L : List (List ByteArray)) (o : ByteArray), (∀ w ∈ L, WOk w) → (txt o L).size ≤ o.size + L.length * 60007
  | [], o, _ => by simp [txt]
  | w :: L, o, h => by
    have h1 := txt_le L (o ++ lineB w) fun y hy => h y (by simp [hy])
    have h2 := lineB_le w (h w (by simp))
    show (txt (o ++ lineB w) L).size ≤ _
    rw [ByteArray.size_append] at h1
    rw [List.length_cons]
    omega
def in64 (k : Int) : Prop := -9223372036854775808 ≤ k ∧ k ≤ 9223372036854775807
theorem itoaB_size {k : Int} (h : in64 k) : (itoaB k).size ≤ 21 := by
  show (Lib.itoa k).toArray.size ≤ 21
  rw [List.size_toArray]
  exact Lib.itoa_length_le k h.1 h.2
abbrev wRow : ByteArray := ⟨#[114, 111, 119]⟩
abbrev wRule : ByteArray := ⟨#[114, 117, 108, 101]⟩
abbrev wPref : ByteArray := ⟨#[112, 114, 101, 102]⟩
abbrev wOff : ByteArray := ⟨#[111, 102, 102]⟩
abbrev wName : ByteArray := ⟨#[110, 97, 109, 101]⟩
abbrev rowW (w : ByteArray) (x : Rw) : List ByteArray := [w, x.t, itoaB x.k, x.x]
abbrev prefW (p : Pf) : List ByteArray := [wPref, p.n, itoaB p.l, itoaB p.m, itoaB p.u, itoaB p.v]
abbrev offW (s : ByteArray) : List ByteArray := [wOff, s]
abbrev nameW (n : Nm) : List ByteArray := [wName, hexB n.a, n.x]
def RwOk (x : Rw) : Prop := x.t.size ≤ 10000 ∧ x.x.size ≤ 10000 ∧ in64 x.k
def PfOk (p : Pf) : Prop := p.n.size ≤ 10000 ∧ in64 p.l ∧ in64 p.m ∧ in64 p.u ∧ in64 p.v
def NmOk (n : Nm) : Prop := n.a.length ≤ 1000 ∧ (∀ x ∈ n.a, 0 ≤ x ∧ x < 256) ∧ n.x.size ≤ 10000
theorem rowW_ok {w : ByteArray} (hw : w.size ≤ 10000) {x : Rw} (h : RwOk x) : WOk (rowW w x) := by
  have := itoaB_size h.2.2
  refine ⟨by simp, fun y hy => ?_⟩
  simp only [rowW, List.mem_cons, List.not_mem_nil, or_false] at hy
  rcases hy with rfl | rfl | rfl | rfl
  · exact hw
  · exact h.1
  · omega
  · exact h.2.1
theorem prefW_ok {p : Pf} (h : PfOk p) : WOk (prefW p) := by
  have h1 := itoaB_size h.2.1
  have h2 := itoaB_size h.2.2.1
  have h3 := itoaB_size h.2.2.2.1
  have h4 := itoaB_size h.2.2.2.2
  refine ⟨by simp, fun y hy => ?_⟩
  simp only [prefW, List.mem_cons, List.not_mem_nil, or_false] at hy
  rcases hy with rfl | rfl | rfl | rfl | rfl | rfl
  · decide
  · exact h.1
  all_goals omega
theorem offW_ok {s : ByteArray} (h : s.size ≤ 10000) : WOk (offW s) := by
  refine ⟨by simp, fun y hy => ?_⟩
  simp only [offW, List.mem_cons, List.not_mem_nil, or_false] at hy
  rcases hy with rfl | rfl
  · decide
  · exact h
theorem hexB_size (l : List Int) : (hexB l).size = 2 * l.length := by
  rw [← hexL_length]
  show (strOfNums (hexL l)).data.size = _
  simp [strOfNums]
theorem nameW_ok {n : Nm} (h : NmOk n) : WOk (nameW n) := by
  have := hexB_size n.a
  have := h.1
  refine ⟨by simp, fun y hy => ?_⟩
  simp only [nameW, List.mem_cons, List.not_mem_nil, or_false] at hy
  rcases hy with rfl | rfl | rfl
  · decide
  · omega
  · exact h.2.2
structure TxR (r : Rst) : Prop where
  rows : r.rows.length ≤ 1000 ∧ ∀ x ∈ r.rows, RwOk x
  rules : r.rules.length ≤ 1000 ∧ ∀ x ∈ r.rules, RwOk x
  prefs : r.prefs.length ≤ 1000 ∧ ∀ x ∈ r.prefs, PfOk x
  off : r.off.length ≤ 1000 ∧ ∀ x ∈ r.off, x.size ≤ 10000
  names : r.names.length ≤ 1000 ∧ ∀ x ∈ r.names, NmOk x
abbrev rO1 (r : Rst) : ByteArray := txt noS ((r.rows.take r.rows.length).map (rowW wRow))
abbrev rO2 (r : Rst) : ByteArray := txt (rO1 r) ((r.rules.take r.rules.length).map (rowW wRule))
abbrev rO3 (r : Rst) : ByteArray := txt (rO2 r) ((r.prefs.take r.prefs.length).map prefW)
abbrev rO4 (r : Rst) : ByteArray := txt (rO3 r) ((r.off.take r.off.length).map offW)
abbrev rO5 (r : Rst) : ByteArray := txt (rO4 r) ((r.names.take r.names.length).map nameW)
def rlines (r : Rst) : List (List ByteArray) := r.rows.map (rowW wRow) ++ (r.rules.map (rowW wRule) ++ (r.prefs.map prefW ++ (r.off.map offW ++ r.names.map nameW)))
theorem rO5_eq (r : Rst) : rO5 r = txt noS (rlines r) := by
  unfold rO5 rO4 rO3 rO2 rO1 rlines
  simp only [List.take_length, txt_app]
theorem take_ok {α : Type} {l : List α} {i : Nat} {f : α → List ByteArray} {o : ByteArray} {B : Nat} (hl : l.length ≤ 1000) (hf : ∀ x ∈ l, WOk (f x)) (ho : o.size ≤ B) : (txt o ((l.take i).map f)).size ≤ B + 60007000 := by
  have h1 := txt_le ((l.take i).map f) o fun w hw => by
    obtain ⟨x, hx, rfl⟩ := List.mem_map.1 hw
    exact hf x (List.mem_of_mem_take hx)
  rw [List.length_map, List.length_take] at h1
  have : min i l.length * 60007 ≤ 1000 * 60007 := Nat.mul_le_mul_right _ (by omega)
  omega
theorem txt_take {α : Type} {l : List α} {i : Nat} {y : α} {f : α → List ByteArray} {o : ByteArray} (hy : l[i]? = some y) : txt o ((l.take (i + 1)).map f) = txt o ((l.take i).map f) ++ lineB (f y) := by
  rw [List.take_add_one, hy, ← txt_snoc]
  simp

theorem rText_ok (r : Rst) (h : TxR r) : CallOk Tryz.prog 20 [.ptr 0 0] (rs r) fun r' st' => r' = vS (txt noS (rlines r)) ∧ st' = rs r := by
  have hO1 : ∀ i, (txt noS ((r.rows.take i).map (rowW wRow))).size ≤ 0 + 60007000 := fun i => take_ok h.rows.1 (fun x hx => rowW_ok (by decide) (h.rows.2 x hx)) (Nat.le_refl _)
  have hO2 : ∀ i, (txt (rO1 r) ((r.rules.take i).map (rowW wRule))).size ≤ 0 + 60007000 + 60007000 := fun i => take_ok h.rules.1 (fun x hx => rowW_ok (by decide) (h.rules.2 x hx)) (hO1 _)
  have hO3 : ∀ i, (txt (rO2 r) ((r.prefs.take i).map prefW)).size ≤ 0 + 60007000 + 60007000 + 60007000 := fun i => take_ok h.prefs.1 (fun x hx => prefW_ok (h.prefs.2 x hx)) (hO2 _)
  have hO4 : ∀ i, (txt (rO3 r) ((r.off.take i).map offW)).size ≤ 0 + 60007000 + 60007000 + 60007000 + 60007000 := fun i => take_ok h.off.1 (fun x hx => offW_ok (h.off.2 x hx)) (hO3 _)
  have hO5 : ∀ i, (txt (rO4 r) ((r.names.take i).map nameW)).size ≤ 0 + 60007000 + 60007000 + 60007000 + 60007000 + 60007000 := fun i => take_ok h.names.1 (fun x hx => nameW_ok (h.names.2 x hx)) (hO4 _)
  have hl1 : (r.rows.map pvR).length = r.rows.length := List.length_map ..
  have hl2 : (r.rules.map pvR).length = r.rules.length := List.length_map ..
  have hl3 : (r.prefs.map pvF).length = r.prefs.length := List.length_map ..
  have hl4 : (r.off.map pvB).length = r.off.length := List.length_map ..
  have hl5 : (r.names.map pvN).length = r.names.length := List.length_map ..
  refine callOk_of false 1 Tryz.func20 rfl (by kernel_rfl) (Nat.le_refl _) ?_
  conv => whnf
  repeat (first | (refine rest_vc ?_; conv => whnf) | (refine ⟨by decide, ?_⟩; conv => whnf))
  refine awp_loop (n := 171) (α := Nat) (fun i => i ≤ r.rows.length) (fun i => [(0, .ptr 0 0), (3, vS (txt noS ((r.rows.take i).map (rowW wRow)))), (4, vI .i64 i)]) (fun _ => rs r) (fun i => r.rows.length - i) 0 (fun _ => 0)
    (Nat.zero_le _) rfl ⟨rfl, rfl, rfl, trivial⟩ rfl (fun _ _ => rfl) (fun _ => ⟨Nat.le_refl _, rfl, rfl⟩) ?_
  rintro i hi
  conv => whnf
  repeat (first | (refine rest_vc ?_; conv => whnf) | (refine ⟨by decide, ?_⟩; conv => whnf))
  intro _
  conv => whnf
  repeat (first | (refine rest_vc ?_; conv => whnf) | (refine ⟨by decide, ?_⟩; conv => whnf))
  split <;> rename_i h2 <;> (conv => whnf) <;> repeat (first | (refine rest_vc ?_; conv => whnf) | (refine ⟨by decide, ?_⟩; conv => whnf))
  · have hlt : i < r.rows.length := by have : (i : Int) < ((r.rows.map pvR).length : Int) := of_decide_eq_true h2; omega
    have hget : r.rows[i]? = some r.rows[i] := List.getElem?_eq_getElem hlt
    obtain ⟨y, hy⟩ : ∃ y, y = r.rows[i] := ⟨_, rfl⟩
    rw [← hy] at hget
    have hyo := h.rows.2 y (by rw [hy]; exact List.getElem_mem hlt)
    have hyw : WOk ((rowW wRow) y) := rowW_ok (by decide) hyo
    have hjl := join_len _ hyw
    have hll := lineB_le _ hyw
    have hOi := hO1 i
    have hld : ∀ q, (r.rows.map pvR)[(i : Int).toNat]? = some q → pvR y = q := fun q hq => by
      rw [Int.toNat_natCast, List.getElem?_map, hget] at hq
      exact Option.some.inj hq
    refine hand_draw [] (fun i r' => match i with | 17 => r' = vS (itoaB y.k) | _ => r' = vS (lineB (rowW wRow y))) rfl (by kernel_rfl) rfl ?_
    conv => whnf
    repeat (first | (refine rest_vc ?_; conv => whnf) | (refine ⟨by decide, ?_⟩; conv => whnf))
    refine ⟨⟨by omega, by omega⟩, fun q hq => ?_⟩
    obtain rfl := hld q hq
    conv => whnf
    repeat (first | (refine rest_vc ?_; conv => whnf) | (refine ⟨by decide, ?_⟩; conv => whnf))
    refine ⟨⟨by omega, by omega⟩, fun q hq => ?_⟩
    obtain rfl := hld q hq
    conv => whnf
    repeat (first | (refine rest_vc ?_; conv => whnf) | (refine ⟨by decide, ?_⟩; conv => whnf))
    refine CallIn.dto (number_ok y.k hyo.2.2.1 hyo.2.2.2) (k := ?_)
    conv => whnf
    repeat (first | (refine rest_vc ?_; conv => whnf) | (refine ⟨by decide, ?_⟩; conv => whnf))
    refine ⟨⟨by omega, by omega⟩, fun q hq => ?_⟩
    obtain rfl := hld q hq
    conv => whnf
    repeat (first | (refine rest_vc ?_; conv => whnf) | (refine ⟨by decide, ?_⟩; conv => whnf))
    refine CallIn.dto (rline_ok false (rowW wRow y) (by simp) (by omega)) (k := ?_)
    conv => whnf
    repeat (first | (refine rest_vc ?_; conv => whnf) | (refine ⟨by decide, ?_⟩; conv => whnf))
    refine ⟨by show (((txt noS ((r.rows.take i).map (rowW wRow))).size + (lineB ((rowW wRow) y)).size : Nat) : Int) ≤ _; omega, ?_⟩
    conv => whnf
    repeat (first | (refine rest_vc ?_; conv => whnf) | (refine ⟨by decide, ?_⟩; conv => whnf))
    refine ⟨i + 1, fun _ => 0, hlt, by omega, rfl, ⟨rfl, ?_, congrArg (vI .i64) (succ64 (by omega)), trivial⟩, rfl, fun _ _ => rfl⟩
    show vS _ = vS _
    rw [txt_take hget]
  · have hil : i = r.rows.length := by have : ¬ (i : Int) < ((r.rows.map pvR).length : Int) := of_decide_eq_false h2; omega
    subst hil
    refine awp_loop (n := 171) (α := Nat) (fun i => i ≤ r.rules.length) (fun i => [(0, .ptr 0 0), (3, vS (txt (rO1 r) ((r.rules.take i).map (rowW wRule)))), (5, vI .i64 i)]) (fun _ => rs r) (fun i => r.rules.length - i) 0 (fun _ => 0)
      (Nat.zero_le _) rfl ⟨rfl, rfl, rfl, trivial⟩ rfl (fun _ _ => rfl) (fun _ => ⟨Nat.le_refl _, rfl, rfl⟩) ?_
    rintro i hi
    conv => whnf
    repeat (first | (refine rest_vc ?_; conv => whnf) | (refine ⟨by decide, ?_⟩; conv => whnf))
    intro _
    conv => whnf
    repeat (first | (refine rest_vc ?_; conv => whnf) | (refine ⟨by decide, ?_⟩; conv => whnf))
    split <;> rename_i h2 <;> (conv => whnf) <;> repeat (first | (refine rest_vc ?_; conv => whnf) | (refine ⟨by decide, ?_⟩; conv => whnf))
    · have hlt : i < r.rules.length := by have : (i : Int) < ((r.rules.map pvR).length : Int) := of_decide_eq_true h2; omega
      have hget : r.rules[i]? = some r.rules[i] := List.getElem?_eq_getElem hlt
      obtain ⟨y, hy⟩ : ∃ y, y = r.rules[i] := ⟨_, rfl⟩
      rw [← hy] at hget
      have hyo := h.rules.2 y (by rw [hy]; exact List.getElem_mem hlt)
      have hyw : WOk ((rowW wRule) y) := rowW_ok (by decide) hyo
      have hjl := join_len _ hyw
      have hll := lineB_le _ hyw
      have hOi := hO2 i
      have hld : ∀ q, (r.rules.map pvR)[(i : Int).toNat]? = some q → pvR y = q := fun q hq => by
        rw [Int.toNat_natCast, List.getElem?_map, hget] at hq
        exact Option.some.inj hq
      refine hand_draw [] (fun i r' => match i with | 17 => r' = vS (itoaB y.k) | _ => r' = vS (lineB (rowW wRule y))) rfl (by kernel_rfl) rfl ?_
      conv => whnf
      repeat (first | (refine rest_vc ?_; conv => whnf) | (refine ⟨by decide, ?_⟩; conv => whnf))
      refine ⟨⟨by omega, by omega⟩, fun q hq => ?_⟩
      obtain rfl := hld q hq
      conv => whnf
      repeat (first | (refine rest_vc ?_; conv => whnf) | (refine ⟨by decide, ?_⟩; conv => whnf))
      refine ⟨⟨by omega, by omega⟩, fun q hq => ?_⟩
      obtain rfl := hld q hq
      conv => whnf
      repeat (first | (refine rest_vc ?_; conv => whnf) | (refine ⟨by decide, ?_⟩; conv => whnf))
      refine CallIn.dto (number_ok y.k hyo.2.2.1 hyo.2.2.2) (k := ?_)
      conv => whnf
      repeat (first | (refine rest_vc ?_; conv => whnf) | (refine ⟨by decide, ?_⟩; conv => whnf))
      refine ⟨⟨by omega, by omega⟩, fun q hq => ?_⟩
      obtain rfl := hld q hq
      conv => whnf
      repeat (first | (refine rest_vc ?_; conv => whnf) | (refine ⟨by decide, ?_⟩; conv => whnf))
      refine CallIn.dto (rline_ok false (rowW wRule y) (by simp) (by omega)) (k := ?_)
      conv => whnf
      repeat (first | (refine rest_vc ?_; conv => whnf) | (refine ⟨by decide, ?_⟩; conv => whnf))
      refine ⟨by show (((txt (rO1 r) ((r.rules.take i).map (rowW wRule))).size + (lineB ((rowW wRule) y)).size : Nat) : Int) ≤ _; omega, ?_⟩
      conv => whnf
      repeat (first | (refine rest_vc ?_; conv => whnf) | (refine ⟨by decide, ?_⟩; conv => whnf))
      refine ⟨i + 1, fun _ => 0, hlt, by omega, rfl, ⟨rfl, ?_, congrArg (vI .i64) (succ64 (by omega)), trivial⟩, rfl, fun _ _ => rfl⟩
      show vS _ = vS _
      rw [txt_take hget]
    · have hil : i = r.rules.length := by have : ¬ (i : Int) < ((r.rules.map pvR).length : Int) := of_decide_eq_false h2; omega
      subst hil
      refine awp_loop (n := 171) (α := Nat) (fun i => i ≤ r.prefs.length) (fun i => [(0, .ptr 0 0), (3, vS (txt (rO2 r) ((r.prefs.take i).map prefW))), (6, vI .i64 i)]) (fun _ => rs r) (fun i => r.prefs.length - i) 0 (fun _ => 0)
        (Nat.zero_le _) rfl ⟨rfl, rfl, rfl, trivial⟩ rfl (fun _ _ => rfl) (fun _ => ⟨Nat.le_refl _, rfl, rfl⟩) ?_
      rintro i hi
      conv => whnf
      repeat (first | (refine rest_vc ?_; conv => whnf) | (refine ⟨by decide, ?_⟩; conv => whnf))
      intro _
      conv => whnf
      repeat (first | (refine rest_vc ?_; conv => whnf) | (refine ⟨by decide, ?_⟩; conv => whnf))
      split <;> rename_i h2 <;> (conv => whnf) <;> repeat (first | (refine rest_vc ?_; conv => whnf) | (refine ⟨by decide, ?_⟩; conv => whnf))
      · have hlt : i < r.prefs.length := by have : (i : Int) < ((r.prefs.map pvF).length : Int) := of_decide_eq_true h2; omega
        have hget : r.prefs[i]? = some r.prefs[i] := List.getElem?_eq_getElem hlt
        obtain ⟨y, hy⟩ : ∃ y, y = r.prefs[i] := ⟨_, rfl⟩
        rw [← hy] at hget
        have hyo := h.prefs.2 y (by rw [hy]; exact List.getElem_mem hlt)
        have hyw : WOk (prefW y) := prefW_ok hyo
        have hjl := join_len _ hyw
        have hll := lineB_le _ hyw
        have hOi := hO3 i
        have hld : ∀ q, (r.prefs.map pvF)[(i : Int).toNat]? = some q → pvF y = q := fun q hq => by
          rw [Int.toNat_natCast, List.getElem?_map, hget] at hq
          exact Option.some.inj hq
        refine ⟨⟨by omega, by omega⟩, fun q hq => ?_⟩
        obtain rfl := hld q hq
        conv => whnf
        repeat (first | (refine rest_vc ?_; conv => whnf) | (refine ⟨by decide, ?_⟩; conv => whnf))
        refine hand_draw [] (fun i r' => match i with | 5 => r' = vS (itoaB y.l) | 8 => r' = vS (itoaB y.m) | 11 => r' = vS (itoaB y.u) | 14 => r' = vS (itoaB y.v) | _ => r' = vS (lineB (prefW y))) rfl (by kernel_rfl) rfl ?_
        conv => whnf
        repeat (first | (refine rest_vc ?_; conv => whnf) | (refine ⟨by decide, ?_⟩; conv => whnf))
        refine CallIn.dto (number_ok y.l hyo.2.1.1 hyo.2.1.2) (k := ?_)
        conv => whnf
        repeat (first | (refine rest_vc ?_; conv => whnf) | (refine ⟨by decide, ?_⟩; conv => whnf))
        refine CallIn.dto (number_ok y.m hyo.2.2.1.1 hyo.2.2.1.2) (k := ?_)
        conv => whnf
        repeat (first | (refine rest_vc ?_; conv => whnf) | (refine ⟨by decide, ?_⟩; conv => whnf))
        refine CallIn.dto (number_ok y.u hyo.2.2.2.1.1 hyo.2.2.2.1.2) (k := ?_)
        conv => whnf
        repeat (first | (refine rest_vc ?_; conv => whnf) | (refine ⟨by decide, ?_⟩; conv => whnf))
        refine CallIn.dto (number_ok y.v hyo.2.2.2.2.1 hyo.2.2.2.2.2) (k := ?_)
        conv => whnf
        repeat (first | (refine rest_vc ?_; conv => whnf) | (refine ⟨by decide, ?_⟩; conv => whnf))
        refine CallIn.dto (rline_ok false (prefW y) (by simp) (by omega)) (k := ?_)
        conv => whnf
        repeat (first | (refine rest_vc ?_; conv => whnf) | (refine ⟨by decide, ?_⟩; conv => whnf))
        refine ⟨by show (((txt (rO2 r) ((r.prefs.take i).map prefW)).size + (lineB (prefW y)).size : Nat) : Int) ≤ _; omega, ?_⟩
        conv => whnf
        repeat (first | (refine rest_vc ?_; conv => whnf) | (refine ⟨by decide, ?_⟩; conv => whnf))
        refine ⟨i + 1, fun _ => 0, hlt, by omega, rfl, ⟨rfl, ?_, congrArg (vI .i64) (succ64 (by omega)), trivial⟩, rfl, fun _ _ => rfl⟩
        show vS _ = vS _
        rw [txt_take hget]
      · have hil : i = r.prefs.length := by have : ¬ (i : Int) < ((r.prefs.map pvF).length : Int) := of_decide_eq_false h2; omega
        subst hil
        refine awp_loop (n := 171) (α := Nat) (fun i => i ≤ r.off.length) (fun i => [(0, .ptr 0 0), (3, vS (txt (rO3 r) ((r.off.take i).map offW))), (8, vI .i64 i)]) (fun _ => rs r) (fun i => r.off.length - i) 0 (fun _ => 0)
          (Nat.zero_le _) rfl ⟨rfl, rfl, rfl, trivial⟩ rfl (fun _ _ => rfl) (fun _ => ⟨Nat.le_refl _, rfl, rfl⟩) ?_
        rintro i hi
        conv => whnf
        repeat (first | (refine rest_vc ?_; conv => whnf) | (refine ⟨by decide, ?_⟩; conv => whnf))
        intro _
        conv => whnf
        repeat (first | (refine rest_vc ?_; conv => whnf) | (refine ⟨by decide, ?_⟩; conv => whnf))
        split <;> rename_i h2 <;> (conv => whnf) <;> repeat (first | (refine rest_vc ?_; conv => whnf) | (refine ⟨by decide, ?_⟩; conv => whnf))
        · have hlt : i < r.off.length := by have : (i : Int) < ((r.off.map pvB).length : Int) := of_decide_eq_true h2; omega
          have hget : r.off[i]? = some r.off[i] := List.getElem?_eq_getElem hlt
          obtain ⟨y, hy⟩ : ∃ y, y = r.off[i] := ⟨_, rfl⟩
          rw [← hy] at hget
          have hyo := h.off.2 y (by rw [hy]; exact List.getElem_mem hlt)
          have hyw : WOk (offW y) := offW_ok hyo
          have hjl := join_len _ hyw
          have hll := lineB_le _ hyw
          have hOi := hO4 i
          have hld : ∀ q, (r.off.map pvB)[(i : Int).toNat]? = some q → pvB y = q := fun q hq => by
            rw [Int.toNat_natCast, List.getElem?_map, hget] at hq
            exact Option.some.inj hq
          refine ⟨⟨by omega, by omega⟩, fun q hq => ?_⟩
          obtain rfl := hld q hq
          conv => whnf
          repeat (first | (refine rest_vc ?_; conv => whnf) | (refine ⟨by decide, ?_⟩; conv => whnf))
          refine CallIn.to (rline_ok false (offW y) (by simp) (by omega)) (k := ?_)
          conv => whnf
          repeat (first | (refine rest_vc ?_; conv => whnf) | (refine ⟨by decide, ?_⟩; conv => whnf))
          refine ⟨by show (((txt (rO3 r) ((r.off.take i).map offW)).size + (lineB (offW y)).size : Nat) : Int) ≤ _; omega, ?_⟩
          conv => whnf
          repeat (first | (refine rest_vc ?_; conv => whnf) | (refine ⟨by decide, ?_⟩; conv => whnf))
          refine ⟨i + 1, fun _ => 0, hlt, by omega, rfl, ⟨rfl, ?_, congrArg (vI .i64) (succ64 (by omega)), trivial⟩, rfl, fun _ _ => rfl⟩
          show vS _ = vS _
          rw [txt_take hget]
        · have hil : i = r.off.length := by have : ¬ (i : Int) < ((r.off.map pvB).length : Int) := of_decide_eq_false h2; omega
          subst hil
          refine awp_loop (n := 171) (α := Nat) (fun i => i ≤ r.names.length) (fun i => [(0, .ptr 0 0), (3, vS (txt (rO4 r) ((r.names.take i).map nameW))), (9, vI .i64 i)]) (fun _ => rs r) (fun i => r.names.length - i) 0 (fun _ => 0)
            (Nat.zero_le _) rfl ⟨rfl, rfl, rfl, trivial⟩ rfl (fun _ _ => rfl) (fun _ => ⟨Nat.le_refl _, rfl, rfl⟩) ?_
          rintro i hi
          conv => whnf
          repeat (first | (refine rest_vc ?_; conv => whnf) | (refine ⟨by decide, ?_⟩; conv => whnf))
          intro _
          conv => whnf
          repeat (first | (refine rest_vc ?_; conv => whnf) | (refine ⟨by decide, ?_⟩; conv => whnf))
          split <;> rename_i h2 <;> (conv => whnf) <;> repeat (first | (refine rest_vc ?_; conv => whnf) | (refine ⟨by decide, ?_⟩; conv => whnf))
          · have hlt : i < r.names.length := by have : (i : Int) < ((r.names.map pvN).length : Int) := of_decide_eq_true h2; omega
            have hget : r.names[i]? = some r.names[i] := List.getElem?_eq_getElem hlt
            obtain ⟨y, hy⟩ : ∃ y, y = r.names[i] := ⟨_, rfl⟩
            rw [← hy] at hget
            have hyo := h.names.2 y (by rw [hy]; exact List.getElem_mem hlt)
            have hyw : WOk (nameW y) := nameW_ok hyo
            have hjl := join_len _ hyw
            have hll := lineB_le _ hyw
            have hOi := hO5 i
            have hld : ∀ q, (r.names.map pvN)[(i : Int).toNat]? = some q → pvN y = q := fun q hq => by
              rw [Int.toNat_natCast, List.getElem?_map, hget] at hq
              exact Option.some.inj hq
            refine hand_draw [] (fun i r' => match i with | 9 => r' = vS (hexB y.a) | _ => r' = vS (lineB (nameW y))) rfl (by kernel_rfl) rfl ?_
            conv => whnf
            repeat (first | (refine rest_vc ?_; conv => whnf) | (refine ⟨by decide, ?_⟩; conv => whnf))
            refine ⟨⟨by omega, by omega⟩, fun q hq => ?_⟩
            obtain rfl := hld q hq
            conv => whnf
            repeat (first | (refine rest_vc ?_; conv => whnf) | (refine ⟨by decide, ?_⟩; conv => whnf))
            refine CallIn.dto (rhex_ok y.nl y.a hyo.1 hyo.2.1) (k := ?_)
            conv => whnf
            repeat (first | (refine rest_vc ?_; conv => whnf) | (refine ⟨by decide, ?_⟩; conv => whnf))
            refine ⟨⟨by omega, by omega⟩, fun q hq => ?_⟩
            obtain rfl := hld q hq
            conv => whnf
            repeat (first | (refine rest_vc ?_; conv => whnf) | (refine ⟨by decide, ?_⟩; conv => whnf))
            refine CallIn.dto (rline_ok false (nameW y) (by simp) (by omega)) (k := ?_)
            conv => whnf
            repeat (first | (refine rest_vc ?_; conv => whnf) | (refine ⟨by decide, ?_⟩; conv => whnf))
            refine ⟨by show (((txt (rO4 r) ((r.names.take i).map nameW)).size + (lineB (nameW y)).size : Nat) : Int) ≤ _; omega, ?_⟩
            conv => whnf
            repeat (first | (refine rest_vc ?_; conv => whnf) | (refine ⟨by decide, ?_⟩; conv => whnf))
            refine ⟨i + 1, fun _ => 0, hlt, by omega, rfl, ⟨rfl, ?_, congrArg (vI .i64) (succ64 (by omega)), trivial⟩, rfl, fun _ _ => rfl⟩
            show vS _ = vS _
            rw [txt_take hget]
          · have hil : i = r.names.length := by have : ¬ (i : Int) < ((r.names.map pvN).length : Int) := of_decide_eq_false h2; omega
            subst hil
            exact ⟨congrArg vS (rO5_eq r), rfl⟩
end Go.Proofs.YtafngalmkblipaaGreatDoor
/- law10: the text of a book (printed by gen_text.py). -/
set_option linter.all false
set_option maxHeartbeats 4000000
set_option maxRecDepth 100000
namespace Go.Proofs.YtafngalmkblipaaGreatDoor
open Go Go.RowKit Go.Sy Go.Proofs

theorem hand_ghostk {P : Program} {k : Kx} {c : Code} {env : List SV} {st : List Ob} {Q : Exit → St → Prop} (o j : Nat) {t : TypeId} {cs : List SV} {sz0 : Nat} (e sz : Nat) (ho : st[o]? = some (.cells t cs)) (hj : cs[j]? = some (.pure (.list sz0 true [])))
    (h : Hand P k c ⟨env, st.set o (.cells t (cs.set j (.vref st.length 0))) ++ [.vec 0 e sz true []]⟩ Q) : Hand P k c ⟨env, st⟩ Q := by
  obtain ⟨h⟩ := h
  exact ⟨fun E a w hE hr => h E a w hE (hr.ghostk o j e sz ho hj)⟩
theorem strE_ok (n : Nat) (nl : Bool) (xs : List PV) (hn : nl = true) (hx : xs = []) : CallOk Tryz.prog 51 [.ptr 0 0] (wrF n nl xs)
    fun r st' => r = vS .empty ∧ st' = wrF n nl xs := by
  subst hn hx
  exact strF_ok n
def pcl : Bool → SV
  | true => .ptr 7 0
  | false => nilP
def namAtP (b : Bst) (a : ByteArray) : ByteArray := match lkI eqBA a b.names 0 with | some x => x.2 | none => noS
abbrev nameWb (b : Bst) (a : ByteArray) : List ByteArray := [wName, hexB (byS a), namAtP b a]
def namK (b : Bst) : List ByteArray := srtS (b.names.map (·.1))
structure TxB (b : Bst) : Prop where
  rows : b.rows.length ≤ 1000 ∧ ∀ x ∈ b.rows, RwOk x
  rules : b.rules.length ≤ 1000 ∧ (b.rules.map (·.1)).Nodup ∧ ∀ e ∈ b.rules, RwOk (rowOf e)
  prefs : b.prefs.length ≤ 1000 ∧ ∀ x ∈ b.prefs, PfOk x
  off : b.off.length ≤ 1000 ∧ (b.off.map (·.1)).Nodup ∧ ∀ e ∈ b.off, e.1.size ≤ 10000
  names : b.names.length ≤ 1000 ∧ (b.names.map (·.1)).Nodup ∧ ∀ e ∈ b.names, e.1.size ≤ 1000 ∧ e.2.size ≤ 10000
theorem ordB_len (b : Bst) : (ordB b).length = b.rules.length := by unfold ordB; rw [(srtR_perm _).length_eq, List.length_map]
theorem ordB_ok {b : Bst} (h : TxB b) : ∀ x ∈ ordB b, RwOk x := fun x hx => by
  obtain ⟨e, he, rfl⟩ := List.mem_map.1 ((srtR_perm _).mem_iff.1 hx)
  exact h.rules.2.2 e he
theorem offB_len (b : Bst) : (offB b).length = b.off.length := by unfold offB; rw [(srtS_perm _).length_eq, List.length_map]
theorem offB_ok {b : Bst} (h : TxB b) : ∀ x ∈ offB b, x.size ≤ 10000 := fun x hx => by
  obtain ⟨e, he, rfl⟩ := List.mem_map.1 ((srtS_perm _).mem_iff.1 hx)
  exact h.off.2.2 e he
theorem namK_len (b : Bst) : (namK b).length = b.names.length := by unfold namK; rw [(srtS_perm _).length_eq, List.length_map]
theorem namK_ok {b : Bst} (h : TxB b) : ∀ x ∈ namK b, x.size ≤ 1000 := fun x hx => by
  obtain ⟨e, he, rfl⟩ := List.mem_map.1 ((srtS_perm _).mem_iff.1 hx)
  exact (h.names.2.2 e he).1
theorem namAt_ok {b : Bst} (h : TxB b) (a : ByteArray) : (namAtP b a).size ≤ 10000 := by
  unfold namAtP
  cases hk : lkI eqBA a b.names 0 with
  | none => show (ByteArray.empty).size ≤ _; decide
  | some x =>
    obtain ⟨j, v⟩ := x
    obtain ⟨l1, k, l2, he, _⟩ := lkI_some hk
    exact (h.names.2.2 (k, v) (by rw [he]; simp)).2
theorem byS_byte (a : ByteArray) : ∀ x ∈ byS a, 0 ≤ x ∧ x < 256 := fun x hx => by
  obtain ⟨c, _, rfl⟩ := List.mem_map.1 hx
  have := c.toNat_lt
  omega
theorem nameWb_ok {b : Bst} (h : TxB b) {a : ByteArray} (ha : a.size ≤ 1000) : WOk (nameWb b a) := by
  have h1 := hexB_size (byS a)
  rw [byS_len] at h1
  have h2 := namAt_ok h a
  refine ⟨by simp, fun y hy => ?_⟩
  simp only [nameWb, List.mem_cons, List.not_mem_nil, or_false] at hy
  rcases hy with rfl | rfl | rfl
  · decide
  · omega
  · exact h2
abbrev bO1 (b : Bst) : ByteArray := txt noS ((b.rows.take b.rows.length).map (rowW wRow))
abbrev bO2 (b : Bst) : ByteArray := txt (bO1 b) (((ordB b).take (ordB b).length).map (rowW wRule))
abbrev bO3 (b : Bst) : ByteArray := txt (bO2 b) ((b.prefs.take b.prefs.length).map prefW)
abbrev bO4 (b : Bst) : ByteArray := txt (bO3 b) (((offB b).take (offB b).length).map offW)
abbrev bO5 (b : Bst) : ByteArray := txt (bO4 b) (((namK b).take (namK b).length).map (nameWb b))
def blines (b : Bst) : List (List ByteArray) := b.rows.map (rowW wRow) ++ ((ordB b).map (rowW wRule) ++ (b.prefs.map prefW ++ ((offB b).map offW ++ (namK b).map (nameWb b))))
theorem bO5_eq (b : Bst) : bO5 b = txt noS (blines b) := by
  unfold bO5 bO4 bO3 bO2 bO1 blines
  simp only [List.take_length, txt_app]
abbrev used (o : ByteArray) : Bool := !o.data.toList.isEmpty
theorem used_snoc (o : ByteArray) (w : List ByteArray) : used (o ++ lineB w) = true := by
  unfold used
  have := lineB_size w
  have h : (o ++ lineB w).data.toList.length = o.size + (lineB w).size := by rw [Array.length_toList]; exact ByteArray.size_append
  cases hh : (o ++ lineB w).data.toList with
  | nil => rw [hh] at h; simp at h; omega
  | cons _ _ => rfl
theorem u8b_len (o : ByteArray) : (u8b o).length = o.size := by rw [List.length_map, Array.length_toList]; rfl

theorem Text_ok (hso : SortRows 78) (b : Bst) (h : TxB b) : CallOk Tryz.prog 19 [.ptr 0 0] (bs b) fun r' st' => r' = vS (txt noS (blines b)) ∧ st' = bs b := by
  have hO1 : ∀ i, (txt noS ((b.rows.take i).map (rowW wRow))).size ≤ 0 + 60007000 := fun i => take_ok h.rows.1 (fun x hx => rowW_ok (by decide) (h.rows.2 x hx)) (Nat.le_refl _)
  have hO2 : ∀ i, (txt (bO1 b) (((ordB b).take i).map (rowW wRule))).size ≤ 0 + 60007000 + 60007000 := fun i => take_ok (by rw [ordB_len]; exact h.rules.1) (fun x hx => rowW_ok (by decide) (ordB_ok h x hx)) (hO1 _)
  have hO3 : ∀ i, (txt (bO2 b) ((b.prefs.take i).map prefW)).size ≤ 0 + 60007000 + 60007000 + 60007000 := fun i => take_ok h.prefs.1 (fun x hx => prefW_ok (h.prefs.2 x hx)) (hO2 _)
  have hO4 : ∀ i, (txt (bO3 b) (((offB b).take i).map offW)).size ≤ 0 + 60007000 + 60007000 + 60007000 + 60007000 := fun i => take_ok (by rw [offB_len]; exact h.off.1) (fun x hx => offW_ok (offB_ok h x hx)) (hO3 _)
  have hO5 : ∀ i, (txt (bO4 b) (((namK b).take i).map (nameWb b))).size ≤ 0 + 60007000 + 60007000 + 60007000 + 60007000 + 60007000 := fun i => take_ok (by rw [namK_len]; exact h.names.1) (fun x hx => nameWb_ok h (namK_ok h x hx)) (hO4 _)
  have hl1 : (b.rows.map pvR).length = b.rows.length := List.length_map ..
  have hl2 : ((ordB b).map pvR).length = (ordB b).length := List.length_map ..
  have hl3 : (b.prefs.map pvF).length = b.prefs.length := List.length_map ..
  have hl4 : ((offB b).map pvB).length = (offB b).length := List.length_map ..
  have hl5 : ((namK b).map pvB).length = (namK b).length := List.length_map ..
  have hL1 := h.rows.1
  have hL2 : (ordB b).length ≤ 1000 := by rw [ordB_len]; exact h.rules.1
  have hL3 := h.prefs.1
  have hL4 : (offB b).length ≤ 1000 := by rw [offB_len]; exact h.off.1
  have hL5 : (namK b).length ≤ 1000 := by rw [namK_len]; exact h.names.1
  refine callOkD_of true 7 Tryz.func19 rfl (by kernel_rfl) (Nat.le_refl _) ?_
  refine handD_region ?_
  conv => whnf
  refine handD_region ?_
  conv => whnf
  refine CallIn.o [0, 1, 2, 3, 4, 5, 6] (enter_ok b.k) (k := ?_)
  rintro r st' ⟨rfl, rfl⟩
  conv => whnf
  refine handD_defer (pre := [_]) rfl rfl rfl rfl rfl rfl rfl ?_
  conv => whnf
  repeat (first | (refine rest_vc ?_; conv => whnf) | (refine ⟨by decide, ?_⟩; conv => whnf))
  refine ⟨_, rfl, rfl, ?_⟩
  refine rest_vc ?_
  conv => whnf
  repeat (first | (refine rest_vc ?_; conv => whnf) | (refine ⟨by decide, ?_⟩; conv => whnf))
  refine decrec_nn ?_
  conv => whnf
  repeat (first | (refine rest_vc ?_; conv => whnf) | (refine ⟨by decide, ?_⟩; conv => whnf))
  intro _
  conv => whnf
  repeat (first | (refine rest_vc ?_; conv => whnf) | (refine ⟨by decide, ?_⟩; conv => whnf))
  refine hand_ghostk 7 1 5 1 rfl rfl ?_
  refine awp_loop (n := 134) (α := Nat × Bool) (fun x => x.1 ≤ b.rows.length ∧ x.2 = used (txt noS ((b.rows.take x.1).map (rowW wRow)))) (fun x => [(0, .ptr 0 0), (5, .ptr 7 0), (28, .vref 1 b.vr), (29, vI .i64 (b.rows.length : Nat)), (30, vI .i64 x.1)])
    (fun x => bk 1 b.k ++ [.cells 95 [pcl x.2, .vref 8 0], .vec 0 5 1 (!x.2) (u8b (txt noS ((b.rows.take x.1).map (rowW wRow))))]) (fun x => b.rows.length - x.1) (0, false) (fun _ => 0)
    ⟨Nat.zero_le _, rfl⟩ rfl ⟨rfl, rfl, rfl, congrArg (vI .i64) (congrArg Nat.cast hl1), rfl, trivial⟩ rfl (fun _ _ => rfl) (fun x => by obtain ⟨i, u⟩ := x; cases u <;> exact ⟨by show 7 ≤ 9; omega, rfl, rfl⟩) ?_
  rintro ⟨i, u⟩ ⟨hi, hu⟩
  conv => whnf
  repeat (first | (refine rest_vc ?_; conv => whnf) | (refine ⟨by decide, ?_⟩; conv => whnf))
  have hi : i ≤ b.rows.length := hi
  have hu : u = used (txt noS ((b.rows.take i).map (rowW wRow))) := hu
  split <;> rename_i h2 <;> (conv => whnf) <;> repeat (first | (refine rest_vc ?_; conv => whnf) | (refine ⟨by decide, ?_⟩; conv => whnf))
  · have hlt : i < b.rows.length := by have : (i : Int) < (b.rows.length : Int) := of_decide_eq_true h2; omega
    have hget : b.rows[i]? = some b.rows[i] := List.getElem?_eq_getElem hlt
    obtain ⟨y, hy⟩ : ∃ y, y = b.rows[i] := ⟨_, rfl⟩
    rw [← hy] at hget
    have hyo := h.rows.2 y (by rw [hy]; exact List.getElem_mem hlt)
    have hyw : WOk ((rowW wRow) y) := rowW_ok (by decide) hyo
    have hjl := join_len _ hyw
    have hll := lineB_le _ hyw
    have hOi := hO1 i
    have hbl := u8b_len (txt noS ((b.rows.take i).map (rowW wRow)))
    have hld : ∀ q, (b.rows.map pvR)[(i : Int).toNat]? = some q → pvR y = q := fun q hq => by
      rw [Int.toNat_natCast, List.getElem?_map, hget] at hq
      exact Option.some.inj hq
    refine must_nn rfl ?_
    refine ⟨⟨by omega, by show (i : Int) < ((b.rows.map pvR).length : Int); rw [hl1]; omega⟩, ?_⟩
    conv => whnf
    repeat (first | (refine rest_vc ?_; conv => whnf) | (refine ⟨by decide, ?_⟩; conv => whnf))
    refine must_nn rfl ?_
    refine ⟨by show (i : Int).toNat < (b.rows.map pvR).length; rw [hl1]; omega, fun q hq => ?_⟩
    obtain rfl := hld q hq
    conv => whnf
    repeat (first | (refine rest_vc ?_; conv => whnf) | (refine ⟨by decide, ?_⟩; conv => whnf))
    refine hand_draw [8] (fun i r => match i with | 4 => r = vS (itoaB y.k) | _ => True) rfl (by kernel_rfl) rfl ?_
    conv => whnf
    repeat (first | (refine rest_vc ?_; conv => whnf) | (refine ⟨by decide, ?_⟩; conv => whnf))
    refine CallIn.dto (itoa_ok y.k hyo.2.2.1 hyo.2.2.2) (k := ?_)
    conv => whnf
    repeat (first | (refine rest_vc ?_; conv => whnf) | (refine ⟨by decide, ?_⟩; conv => whnf))
    cases u
    · refine CallIn.o [7, 8] (lineF_ok 0 false true (u8b (txt noS ((b.rows.take i).map (rowW wRow)))) ((rowW wRow) y) (by simp) (by omega) (by omega)) (k := ?_)
      rintro r st' ⟨rfl, rfl⟩
      conv => whnf
      repeat (first | (refine rest_vc ?_; conv => whnf) | (refine ⟨by decide, ?_⟩; conv => whnf))
      refine ⟨(i + 1, true), fun o => if o = 8 then 1 else 0, ⟨hlt, by show true = used (txt _ _); rw [txt_take hget, used_snoc]⟩, by show b.rows.length - (i + 1) < b.rows.length - i; omega, rfl, ⟨rfl, rfl, rfl, rfl, congrArg (vI .i64) (succ64 (by omega)), trivial⟩, ?_, fun o ho => by have : o < 7 := ho; simp; omega⟩
      have e1 : u8b (txt noS ((b.rows.take (i + 1)).map (rowW wRow))) = u8b (txt noS ((b.rows.take i).map (rowW wRow))) ++ u8b (lineB ((rowW wRow) y)) := by rw [txt_take hget, u8b_append]
      refine Eq.trans (b := upSt (fun o => if o = 8 then 1 else 0) 0 (bk 1 b.k ++ [.cells 95 [pcl true, .vref 8 0], .vec 0 5 1 false (u8b (txt noS ((b.rows.take i).map (rowW wRow))) ++ u8b (lineB ((rowW wRow) y)))])) rfl ?_
      rw [← e1]
      rfl
    · refine CallIn.o [7, 8] (lineU_ok 0 false false (u8b (txt noS ((b.rows.take i).map (rowW wRow)))) ((rowW wRow) y) (by simp) (by omega) (by omega)) (k := ?_)
      rintro r st' ⟨rfl, rfl⟩
      conv => whnf
      repeat (first | (refine rest_vc ?_; conv => whnf) | (refine ⟨by decide, ?_⟩; conv => whnf))
      refine ⟨(i + 1, true), fun o => if o = 8 then 1 else 0, ⟨hlt, by show true = used (txt _ _); rw [txt_take hget, used_snoc]⟩, by show b.rows.length - (i + 1) < b.rows.length - i; omega, rfl, ⟨rfl, rfl, rfl, rfl, congrArg (vI .i64) (succ64 (by omega)), trivial⟩, ?_, fun o ho => by have : o < 7 := ho; simp; omega⟩
      have e1 : u8b (txt noS ((b.rows.take (i + 1)).map (rowW wRow))) = u8b (txt noS ((b.rows.take i).map (rowW wRow))) ++ u8b (lineB ((rowW wRow) y)) := by rw [txt_take hget, u8b_append]
      refine Eq.trans (b := upSt (fun o => if o = 8 then 1 else 0) 0 (bk 1 b.k ++ [.cells 95 [pcl true, .vref 8 0], .vec 0 5 1 false (u8b (txt noS ((b.rows.take i).map (rowW wRow))) ++ u8b (lineB ((rowW wRow) y)))])) rfl ?_
      rw [← e1]
      rfl
  · have hil : i = b.rows.length := by have : ¬ (i : Int) < (b.rows.length : Int) := of_decide_eq_false h2; omega
    subst hil
    refine CallIn.o [1, 2, 3, 4, 5, 6] (ordered_ok hso b h.rules.2.1 h.rules.1) (k := ?_)
    rintro r st' ⟨nl, rfl, rfl⟩
    conv => whnf
    repeat (first | (refine rest_vc ?_; conv => whnf) | (refine ⟨by decide, ?_⟩; conv => whnf))
    intro _
    conv => whnf
    repeat (first | (refine rest_vc ?_; conv => whnf) | (refine ⟨by decide, ?_⟩; conv => whnf))
    refine awp_loop (n := 134) (α := Nat × Bool) (fun x => x.1 ≤ (ordB b).length ∧ x.2 = used (txt (bO1 b) (((ordB b).take x.1).map (rowW wRule)))) (fun x => [(0, .ptr 0 0), (5, .ptr 7 0), (48, .vref 11 0), (49, vI .i64 ((ordB b).length : Nat)), (50, vI .i64 x.1)])
      (fun x => bk 1 b.k ++ [.cells 95 [pcl x.2, .vref 8 0], .vec 0 5 1 (!x.2) (u8b (txt (bO1 b) (((ordB b).take x.1).map (rowW wRule)))), .cells 65 [.vref 1 b.vr, .mref 2, .mref 3, .vref 4 b.vp, .mref 5, .mref 6], .gone, .vec 0 44 3 nl ((ordB b).map pvR)]) (fun x => (ordB b).length - x.1) (0, u) (fun _ => 0)
      ⟨Nat.zero_le _, hu⟩ rfl ⟨rfl, rfl, rfl, congrArg (vI .i64) (congrArg Nat.cast hl2), rfl, trivial⟩ (by cases u <;> rfl) (fun _ _ => rfl) (fun x => by obtain ⟨i, u⟩ := x; cases u <;> exact ⟨by show 7 ≤ 12; omega, rfl, rfl⟩) ?_
    rintro ⟨i, u⟩ ⟨hi, hu⟩
    conv => whnf
    repeat (first | (refine rest_vc ?_; conv => whnf) | (refine ⟨by decide, ?_⟩; conv => whnf))
    have hi : i ≤ (ordB b).length := hi
    have hu : u = used (txt (bO1 b) (((ordB b).take i).map (rowW wRule))) := hu
    split <;> rename_i h2 <;> (conv => whnf) <;> repeat (first | (refine rest_vc ?_; conv => whnf) | (refine ⟨by decide, ?_⟩; conv => whnf))
    · have hlt : i < (ordB b).length := by have : (i : Int) < ((ordB b).length : Int) := of_decide_eq_true h2; omega
      have hget : (ordB b)[i]? = some (ordB b)[i] := List.getElem?_eq_getElem hlt
      obtain ⟨y, hy⟩ : ∃ y, y = (ordB b)[i] := ⟨_, rfl⟩
      rw [← hy] at hget
      have hyo := (ordB_ok h) y (by rw [hy]; exact List.getElem_mem hlt)
      have hyw : WOk ((rowW wRule) y) := rowW_ok (by decide) hyo
      have hjl := join_len _ hyw
      have hll := lineB_le _ hyw
      have hOi := hO2 i
      have hbl := u8b_len (txt (bO1 b) (((ordB b).take i).map (rowW wRule)))
      have hld : ∀ q, ((ordB b).map pvR)[(i : Int).toNat]? = some q → pvR y = q := fun q hq => by
        rw [Int.toNat_natCast, List.getElem?_map, hget] at hq
        exact Option.some.inj hq
      refine ⟨⟨by omega, by show (i : Int) < (((ordB b).map pvR).length : Int); rw [hl2]; omega⟩, ?_⟩
      conv => whnf
      repeat (first | (refine rest_vc ?_; conv => whnf) | (refine ⟨by decide, ?_⟩; conv => whnf))
      refine ⟨by show (i : Int).toNat < ((ordB b).map pvR).length; rw [hl2]; omega, fun q hq => ?_⟩
      obtain rfl := hld q hq
      conv => whnf
      repeat (first | (refine rest_vc ?_; conv => whnf) | (refine ⟨by decide, ?_⟩; conv => whnf))
      refine hand_draw [8] (fun i r => match i with | 4 => r = vS (itoaB y.k) | _ => True) rfl (by kernel_rfl) rfl ?_
      conv => whnf
      repeat (first | (refine rest_vc ?_; conv => whnf) | (refine ⟨by decide, ?_⟩; conv => whnf))
      refine CallIn.dto (itoa_ok y.k hyo.2.2.1 hyo.2.2.2) (k := ?_)
      conv => whnf
      repeat (first | (refine rest_vc ?_; conv => whnf) | (refine ⟨by decide, ?_⟩; conv => whnf))
      cases u
      · refine CallIn.o [7, 8] (lineF_ok 0 false true (u8b (txt (bO1 b) (((ordB b).take i).map (rowW wRule)))) ((rowW wRule) y) (by simp) (by omega) (by omega)) (k := ?_)
        rintro r st' ⟨rfl, rfl⟩
        conv => whnf
        repeat (first | (refine rest_vc ?_; conv => whnf) | (refine ⟨by decide, ?_⟩; conv => whnf))
        refine ⟨(i + 1, true), fun o => if o = 8 then 1 else 0, ⟨hlt, by show true = used (txt _ _); rw [txt_take hget, used_snoc]⟩, by show (ordB b).length - (i + 1) < (ordB b).length - i; omega, rfl, ⟨rfl, rfl, rfl, rfl, congrArg (vI .i64) (succ64 (by omega)), trivial⟩, ?_, fun o ho => by have : o < 7 := ho; simp; omega⟩
        have e1 : u8b (txt (bO1 b) (((ordB b).take (i + 1)).map (rowW wRule))) = u8b (txt (bO1 b) (((ordB b).take i).map (rowW wRule))) ++ u8b (lineB ((rowW wRule) y)) := by rw [txt_take hget, u8b_append]
        refine Eq.trans (b := upSt (fun o => if o = 8 then 1 else 0) 0 (bk 1 b.k ++ [.cells 95 [pcl true, .vref 8 0], .vec 0 5 1 false (u8b (txt (bO1 b) (((ordB b).take i).map (rowW wRule))) ++ u8b (lineB ((rowW wRule) y))), .cells 65 [.vref 1 b.vr, .mref 2, .mref 3, .vref 4 b.vp, .mref 5, .mref 6], .gone, .vec 0 44 3 nl ((ordB b).map pvR)])) rfl ?_
        rw [← e1]
        rfl
      · refine CallIn.o [7, 8] (lineU_ok 0 false false (u8b (txt (bO1 b) (((ordB b).take i).map (rowW wRule)))) ((rowW wRule) y) (by simp) (by omega) (by omega)) (k := ?_)
        rintro r st' ⟨rfl, rfl⟩
        conv => whnf
        repeat (first | (refine rest_vc ?_; conv => whnf) | (refine ⟨by decide, ?_⟩; conv => whnf))
        refine ⟨(i + 1, true), fun o => if o = 8 then 1 else 0, ⟨hlt, by show true = used (txt _ _); rw [txt_take hget, used_snoc]⟩, by show (ordB b).length - (i + 1) < (ordB b).length - i; omega, rfl, ⟨rfl, rfl, rfl, rfl, congrArg (vI .i64) (succ64 (by omega)), trivial⟩, ?_, fun o ho => by have : o < 7 := ho; simp; omega⟩
        have e1 : u8b (txt (bO1 b) (((ordB b).take (i + 1)).map (rowW wRule))) = u8b (txt (bO1 b) (((ordB b).take i).map (rowW wRule))) ++ u8b (lineB ((rowW wRule) y)) := by rw [txt_take hget, u8b_append]
        refine Eq.trans (b := upSt (fun o => if o = 8 then 1 else 0) 0 (bk 1 b.k ++ [.cells 95 [pcl true, .vref 8 0], .vec 0 5 1 false (u8b (txt (bO1 b) (((ordB b).take i).map (rowW wRule))) ++ u8b (lineB ((rowW wRule) y))), .cells 65 [.vref 1 b.vr, .mref 2, .mref 3, .vref 4 b.vp, .mref 5, .mref 6], .gone, .vec 0 44 3 nl ((ordB b).map pvR)])) rfl ?_
        rw [← e1]
        rfl
    · have hil : i = (ordB b).length := by have : ¬ (i : Int) < ((ordB b).length : Int) := of_decide_eq_false h2; omega
      subst hil
      refine decrec_nn ?_
      conv => whnf
      repeat (first | (refine rest_vc ?_; conv => whnf) | (refine ⟨by decide, ?_⟩; conv => whnf))
      intro _
      conv => whnf
      repeat (first | (refine rest_vc ?_; conv => whnf) | (refine ⟨by decide, ?_⟩; conv => whnf))
      refine awp_loop (n := 134) (α := Nat × Bool) (fun x => x.1 ≤ b.prefs.length ∧ x.2 = used (txt (bO2 b) ((b.prefs.take x.1).map prefW))) (fun x => [(0, .ptr 0 0), (5, .ptr 7 0), (68, .vref 4 b.vp), (69, vI .i64 (b.prefs.length : Nat)), (70, vI .i64 x.1)])
        (fun x => bk 1 b.k ++ [.cells 95 [pcl x.2, .vref 8 0], .vec 0 5 1 (!x.2) (u8b (txt (bO2 b) ((b.prefs.take x.1).map prefW))), .cells 65 [.vref 1 b.vr, .mref 2, .mref 3, .vref 4 b.vp, .mref 5, .mref 6], .gone, .vec 0 44 3 nl ((ordB b).map pvR)]) (fun x => b.prefs.length - x.1) (0, u) (fun _ => 0)
        ⟨Nat.zero_le _, hu⟩ rfl ⟨rfl, rfl, rfl, congrArg (vI .i64) (congrArg Nat.cast hl3), rfl, trivial⟩ (by cases u <;> rfl) (fun _ _ => rfl) (fun x => by obtain ⟨i, u⟩ := x; cases u <;> exact ⟨by show 7 ≤ 12; omega, rfl, rfl⟩) ?_
      rintro ⟨i, u⟩ ⟨hi, hu⟩
      conv => whnf
      repeat (first | (refine rest_vc ?_; conv => whnf) | (refine ⟨by decide, ?_⟩; conv => whnf))
      have hi : i ≤ b.prefs.length := hi
      have hu : u = used (txt (bO2 b) ((b.prefs.take i).map prefW)) := hu
      split <;> rename_i h2 <;> (conv => whnf) <;> repeat (first | (refine rest_vc ?_; conv => whnf) | (refine ⟨by decide, ?_⟩; conv => whnf))
      · have hlt : i < b.prefs.length := by have : (i : Int) < (b.prefs.length : Int) := of_decide_eq_true h2; omega
        have hget : b.prefs[i]? = some b.prefs[i] := List.getElem?_eq_getElem hlt
        obtain ⟨y, hy⟩ : ∃ y, y = b.prefs[i] := ⟨_, rfl⟩
        rw [← hy] at hget
        have hyo := h.prefs.2 y (by rw [hy]; exact List.getElem_mem hlt)
        have hyw : WOk (prefW y) := prefW_ok hyo
        have hjl := join_len _ hyw
        have hll := lineB_le _ hyw
        have hOi := hO3 i
        have hbl := u8b_len (txt (bO2 b) ((b.prefs.take i).map prefW))
        have hld : ∀ q, (b.prefs.map pvF)[(i : Int).toNat]? = some q → pvF y = q := fun q hq => by
          rw [Int.toNat_natCast, List.getElem?_map, hget] at hq
          exact Option.some.inj hq
        refine must_nn rfl ?_
        refine ⟨⟨by omega, by show (i : Int) < ((b.prefs.map pvF).length : Int); rw [hl3]; omega⟩, ?_⟩
        conv => whnf
        repeat (first | (refine rest_vc ?_; conv => whnf) | (refine ⟨by decide, ?_⟩; conv => whnf))
        refine must_nn rfl ?_
        refine ⟨by show (i : Int).toNat < (b.prefs.map pvF).length; rw [hl3]; omega, fun q hq => ?_⟩
        obtain rfl := hld q hq
        conv => whnf
        repeat (first | (refine rest_vc ?_; conv => whnf) | (refine ⟨by decide, ?_⟩; conv => whnf))
        refine hand_draw [15] (fun i r => match i with | 4 => r = vS (itoaB y.l) | 7 => r = vS (itoaB y.m) | 10 => r = vS (itoaB y.u) | 13 => r = vS (itoaB y.v) | _ => True) rfl (by kernel_rfl) rfl ?_
        conv => whnf
        repeat (first | (refine rest_vc ?_; conv => whnf) | (refine ⟨by decide, ?_⟩; conv => whnf))
        refine CallIn.dto (itoa_ok y.l hyo.2.1.1 hyo.2.1.2) (k := ?_)
        conv => whnf
        repeat (first | (refine rest_vc ?_; conv => whnf) | (refine ⟨by decide, ?_⟩; conv => whnf))
        refine CallIn.dto (itoa_ok y.m hyo.2.2.1.1 hyo.2.2.1.2) (k := ?_)
        conv => whnf
        repeat (first | (refine rest_vc ?_; conv => whnf) | (refine ⟨by decide, ?_⟩; conv => whnf))
        refine CallIn.dto (itoa_ok y.u hyo.2.2.2.1.1 hyo.2.2.2.1.2) (k := ?_)
        conv => whnf
        repeat (first | (refine rest_vc ?_; conv => whnf) | (refine ⟨by decide, ?_⟩; conv => whnf))
        refine CallIn.dto (itoa_ok y.v hyo.2.2.2.2.1 hyo.2.2.2.2.2) (k := ?_)
        conv => whnf
        repeat (first | (refine rest_vc ?_; conv => whnf) | (refine ⟨by decide, ?_⟩; conv => whnf))
        cases u
        · refine CallIn.o [7, 8] (lineF_ok 0 false true (u8b (txt (bO2 b) ((b.prefs.take i).map prefW))) (prefW y) (by simp) (by omega) (by omega)) (k := ?_)
          rintro r st' ⟨rfl, rfl⟩
          conv => whnf
          repeat (first | (refine rest_vc ?_; conv => whnf) | (refine ⟨by decide, ?_⟩; conv => whnf))
          refine ⟨(i + 1, true), fun o => if o = 8 then 1 else 0, ⟨hlt, by show true = used (txt _ _); rw [txt_take hget, used_snoc]⟩, by show b.prefs.length - (i + 1) < b.prefs.length - i; omega, rfl, ⟨rfl, rfl, rfl, rfl, congrArg (vI .i64) (succ64 (by omega)), trivial⟩, ?_, fun o ho => by have : o < 7 := ho; simp; omega⟩
          have e1 : u8b (txt (bO2 b) ((b.prefs.take (i + 1)).map prefW)) = u8b (txt (bO2 b) ((b.prefs.take i).map prefW)) ++ u8b (lineB (prefW y)) := by rw [txt_take hget, u8b_append]
          refine Eq.trans (b := upSt (fun o => if o = 8 then 1 else 0) 0 (bk 1 b.k ++ [.cells 95 [pcl true, .vref 8 0], .vec 0 5 1 false (u8b (txt (bO2 b) ((b.prefs.take i).map prefW)) ++ u8b (lineB (prefW y))), .cells 65 [.vref 1 b.vr, .mref 2, .mref 3, .vref 4 b.vp, .mref 5, .mref 6], .gone, .vec 0 44 3 nl ((ordB b).map pvR)])) rfl ?_
          rw [← e1]
          rfl
        · refine CallIn.o [7, 8] (lineU_ok 0 false false (u8b (txt (bO2 b) ((b.prefs.take i).map prefW))) (prefW y) (by simp) (by omega) (by omega)) (k := ?_)
          rintro r st' ⟨rfl, rfl⟩
          conv => whnf
          repeat (first | (refine rest_vc ?_; conv => whnf) | (refine ⟨by decide, ?_⟩; conv => whnf))
          refine ⟨(i + 1, true), fun o => if o = 8 then 1 else 0, ⟨hlt, by show true = used (txt _ _); rw [txt_take hget, used_snoc]⟩, by show b.prefs.length - (i + 1) < b.prefs.length - i; omega, rfl, ⟨rfl, rfl, rfl, rfl, congrArg (vI .i64) (succ64 (by omega)), trivial⟩, ?_, fun o ho => by have : o < 7 := ho; simp; omega⟩
          have e1 : u8b (txt (bO2 b) ((b.prefs.take (i + 1)).map prefW)) = u8b (txt (bO2 b) ((b.prefs.take i).map prefW)) ++ u8b (lineB (prefW y)) := by rw [txt_take hget, u8b_append]
          refine Eq.trans (b := upSt (fun o => if o = 8 then 1 else 0) 0 (bk 1 b.k ++ [.cells 95 [pcl true, .vref 8 0], .vec 0 5 1 false (u8b (txt (bO2 b) ((b.prefs.take i).map prefW)) ++ u8b (lineB (prefW y))), .cells 65 [.vref 1 b.vr, .mref 2, .mref 3, .vref 4 b.vp, .mref 5, .mref 6], .gone, .vec 0 44 3 nl ((ordB b).map pvR)])) rfl ?_
          rw [← e1]
          rfl
      · have hil : i = b.prefs.length := by have : ¬ (i : Int) < (b.prefs.length : Int) := of_decide_eq_false h2; omega
        subst hil
        refine CallIn.o [5] (keysO_ok (enO b.off)) (k := ?_)
        rintro r st' ⟨rfl, rfl⟩
        conv => whnf
        repeat (first | (refine rest_vc ?_; conv => whnf) | (refine ⟨by decide, ?_⟩; conv => whnf))
        refine CallIn.o [5, 12] (sortedO_ok 62 b.off (by have := h.off.1; omega) (fun e he => Nat.le_trans (h.off.2.2 e he) (by unfold maxLen; omega)) h.off.2.1) (k := ?_)
        rintro r st' ⟨rfl, rfl⟩
        conv => whnf
        repeat (first | (refine rest_vc ?_; conv => whnf) | (refine ⟨by decide, ?_⟩; conv => whnf))
        intro _
        conv => whnf
        repeat (first | (refine rest_vc ?_; conv => whnf) | (refine ⟨by decide, ?_⟩; conv => whnf))
        refine awp_loop (n := 134) (α := Nat × Bool) (fun x => x.1 ≤ (offB b).length ∧ x.2 = used (txt (bO3 b) (((offB b).take x.1).map offW))) (fun x => [(0, .ptr 0 0), (5, .ptr 7 0), (97, .pure (.list 1 b.off.isEmpty ((offB b).map pvB))), (98, vI .i64 ((offB b).length : Nat)), (99, vI .i64 x.1)])
          (fun x => bk 1 b.k ++ [.cells 95 [pcl x.2, .vref 8 0], .vec 0 5 1 (!x.2) (u8b (txt (bO3 b) (((offB b).take x.1).map offW))), .cells 65 [.vref 1 b.vr, .mref 2, .mref 3, .vref 4 b.vp, .mref 5, .mref 6], .gone, .vec 0 44 3 nl ((ordB b).map pvR), .cells 62 [.mref 5]]) (fun x => (offB b).length - x.1) (0, u) (fun _ => 0)
          ⟨Nat.zero_le _, hu⟩ rfl ⟨rfl, rfl, rfl, congrArg (vI .i64) (congrArg Nat.cast hl4), rfl, trivial⟩ (by cases u <;> rfl) (fun _ _ => rfl) (fun x => by obtain ⟨i, u⟩ := x; cases u <;> exact ⟨by show 7 ≤ 13; omega, rfl, rfl⟩) ?_
        rintro ⟨i, u⟩ ⟨hi, hu⟩
        conv => whnf
        repeat (first | (refine rest_vc ?_; conv => whnf) | (refine ⟨by decide, ?_⟩; conv => whnf))
        have hi : i ≤ (offB b).length := hi
        have hu : u = used (txt (bO3 b) (((offB b).take i).map offW)) := hu
        split <;> rename_i h2 <;> (conv => whnf) <;> repeat (first | (refine rest_vc ?_; conv => whnf) | (refine ⟨by decide, ?_⟩; conv => whnf))
        · have hlt : i < (offB b).length := by have : (i : Int) < ((offB b).length : Int) := of_decide_eq_true h2; omega
          have hget : (offB b)[i]? = some (offB b)[i] := List.getElem?_eq_getElem hlt
          obtain ⟨y, hy⟩ : ∃ y, y = (offB b)[i] := ⟨_, rfl⟩
          rw [← hy] at hget
          have hyo := (offB_ok h) y (by rw [hy]; exact List.getElem_mem hlt)
          have hyw : WOk (offW y) := offW_ok hyo
          have hjl := join_len _ hyw
          have hll := lineB_le _ hyw
          have hOi := hO4 i
          have hbl := u8b_len (txt (bO3 b) (((offB b).take i).map offW))
          have hld : ∀ q, ((offB b).map pvB)[(i : Int).toNat]? = some q → pvB y = q := fun q hq => by
            rw [Int.toNat_natCast, List.getElem?_map, hget] at hq
            exact Option.some.inj hq
          refine ⟨⟨by omega, by first | omega | (show (i : Int) < (((offB b).map pvB).length : Int); omega)⟩, fun q hq => ?_⟩
          obtain rfl := hld q hq
          conv => whnf
          repeat (first | (refine rest_vc ?_; conv => whnf) | (refine ⟨by decide, ?_⟩; conv => whnf))
          cases u
          · refine CallIn.o [7, 8] (lineF_ok 0 false true (u8b (txt (bO3 b) (((offB b).take i).map offW))) (offW y) (by simp) (by omega) (by omega)) (k := ?_)
            rintro r st' ⟨rfl, rfl⟩
            conv => whnf
            repeat (first | (refine rest_vc ?_; conv => whnf) | (refine ⟨by decide, ?_⟩; conv => whnf))
            refine ⟨(i + 1, true), fun o => if o = 8 then 1 else 0, ⟨hlt, by show true = used (txt _ _); rw [txt_take hget, used_snoc]⟩, by show (offB b).length - (i + 1) < (offB b).length - i; omega, rfl, ⟨rfl, rfl, rfl, rfl, congrArg (vI .i64) (succ64 (by omega)), trivial⟩, ?_, fun o ho => by have : o < 7 := ho; simp; omega⟩
            have e1 : u8b (txt (bO3 b) (((offB b).take (i + 1)).map offW)) = u8b (txt (bO3 b) (((offB b).take i).map offW)) ++ u8b (lineB (offW y)) := by rw [txt_take hget, u8b_append]
            refine Eq.trans (b := upSt (fun o => if o = 8 then 1 else 0) 0 (bk 1 b.k ++ [.cells 95 [pcl true, .vref 8 0], .vec 0 5 1 false (u8b (txt (bO3 b) (((offB b).take i).map offW)) ++ u8b (lineB (offW y))), .cells 65 [.vref 1 b.vr, .mref 2, .mref 3, .vref 4 b.vp, .mref 5, .mref 6], .gone, .vec 0 44 3 nl ((ordB b).map pvR), .cells 62 [.mref 5]])) rfl ?_
            rw [← e1]
            rfl
          · refine CallIn.o [7, 8] (lineU_ok 0 false false (u8b (txt (bO3 b) (((offB b).take i).map offW))) (offW y) (by simp) (by omega) (by omega)) (k := ?_)
            rintro r st' ⟨rfl, rfl⟩
            conv => whnf
            repeat (first | (refine rest_vc ?_; conv => whnf) | (refine ⟨by decide, ?_⟩; conv => whnf))
            refine ⟨(i + 1, true), fun o => if o = 8 then 1 else 0, ⟨hlt, by show true = used (txt _ _); rw [txt_take hget, used_snoc]⟩, by show (offB b).length - (i + 1) < (offB b).length - i; omega, rfl, ⟨rfl, rfl, rfl, rfl, congrArg (vI .i64) (succ64 (by omega)), trivial⟩, ?_, fun o ho => by have : o < 7 := ho; simp; omega⟩
            have e1 : u8b (txt (bO3 b) (((offB b).take (i + 1)).map offW)) = u8b (txt (bO3 b) (((offB b).take i).map offW)) ++ u8b (lineB (offW y)) := by rw [txt_take hget, u8b_append]
            refine Eq.trans (b := upSt (fun o => if o = 8 then 1 else 0) 0 (bk 1 b.k ++ [.cells 95 [pcl true, .vref 8 0], .vec 0 5 1 false (u8b (txt (bO3 b) (((offB b).take i).map offW)) ++ u8b (lineB (offW y))), .cells 65 [.vref 1 b.vr, .mref 2, .mref 3, .vref 4 b.vp, .mref 5, .mref 6], .gone, .vec 0 44 3 nl ((ordB b).map pvR), .cells 62 [.mref 5]])) rfl ?_
            rw [← e1]
            rfl
        · have hil : i = (offB b).length := by have : ¬ (i : Int) < ((offB b).length : Int) := of_decide_eq_false h2; omega
          subst hil
          refine CallIn.o [6] (keysN_ok (enN b.names)) (k := ?_)
          rintro r st' ⟨rfl, rfl⟩
          conv => whnf
          repeat (first | (refine rest_vc ?_; conv => whnf) | (refine ⟨by decide, ?_⟩; conv => whnf))
          refine CallIn.o [6, 13] (sortedN_ok 63 b.names (by have := h.names.1; omega) (fun e he => Nat.le_trans (h.names.2.2 e he).1 (by unfold maxLen; omega)) h.names.2.1) (k := ?_)
          rintro r st' ⟨rfl, rfl⟩
          conv => whnf
          repeat (first | (refine rest_vc ?_; conv => whnf) | (refine ⟨by decide, ?_⟩; conv => whnf))
          intro _
          conv => whnf
          repeat (first | (refine rest_vc ?_; conv => whnf) | (refine ⟨by decide, ?_⟩; conv => whnf))
          refine awp_loop (n := 134) (α := Nat × Bool) (fun x => x.1 ≤ (namK b).length ∧ x.2 = used (txt (bO4 b) (((namK b).take x.1).map (nameWb b)))) (fun x => [(0, .ptr 0 0), (5, .ptr 7 0), (113, .pure (.list 1 b.names.isEmpty ((namK b).map pvB))), (114, vI .i64 ((namK b).length : Nat)), (115, vI .i64 x.1)])
            (fun x => bk 1 b.k ++ [.cells 95 [pcl x.2, .vref 8 0], .vec 0 5 1 (!x.2) (u8b (txt (bO4 b) (((namK b).take x.1).map (nameWb b)))), .cells 65 [.vref 1 b.vr, .mref 2, .mref 3, .vref 4 b.vp, .mref 5, .mref 6], .gone, .vec 0 44 3 nl ((ordB b).map pvR), .cells 62 [.mref 5], .cells 63 [.mref 6]]) (fun x => (namK b).length - x.1) (0, u) (fun _ => 0)
            ⟨Nat.zero_le _, hu⟩ rfl ⟨rfl, rfl, rfl, congrArg (vI .i64) (congrArg Nat.cast hl5), rfl, trivial⟩ (by cases u <;> rfl) (fun _ _ => rfl) (fun x => by obtain ⟨i, u⟩ := x; cases u <;> exact ⟨by show 7 ≤ 14; omega, rfl, rfl⟩) ?_
          rintro ⟨i, u⟩ ⟨hi, hu⟩
          conv => whnf
          repeat (first | (refine rest_vc ?_; conv => whnf) | (refine ⟨by decide, ?_⟩; conv => whnf))
          have hi : i ≤ (namK b).length := hi
          have hu : u = used (txt (bO4 b) (((namK b).take i).map (nameWb b))) := hu
          split <;> rename_i h2 <;> (conv => whnf) <;> repeat (first | (refine rest_vc ?_; conv => whnf) | (refine ⟨by decide, ?_⟩; conv => whnf))
          · have hlt : i < (namK b).length := by have : (i : Int) < ((namK b).length : Int) := of_decide_eq_true h2; omega
            have hget : (namK b)[i]? = some (namK b)[i] := List.getElem?_eq_getElem hlt
            obtain ⟨y, hy⟩ : ∃ y, y = (namK b)[i] := ⟨_, rfl⟩
            rw [← hy] at hget
            have hyo := (namK_ok h) y (by rw [hy]; exact List.getElem_mem hlt)
            have hyw : WOk ((nameWb b) y) := nameWb_ok h hyo
            have hjl := join_len _ hyw
            have hll := lineB_le _ hyw
            have hOi := hO5 i
            have hbl := u8b_len (txt (bO4 b) (((namK b).take i).map (nameWb b)))
            have hld : ∀ q, ((namK b).map pvB)[(i : Int).toNat]? = some q → pvB y = q := fun q hq => by
              rw [Int.toNat_natCast, List.getElem?_map, hget] at hq
              exact Option.some.inj hq
            refine ⟨⟨by omega, by first | omega | (show (i : Int) < (((namK b).map pvB).length : Int); omega)⟩, fun q hq => ?_⟩
            obtain rfl := hld q hq
            conv => whnf
            repeat (first | (refine rest_vc ?_; conv => whnf) | (refine ⟨by decide, ?_⟩; conv => whnf))
            refine hand_draw [11] (fun i r => match i with | 2 => r = vS (hexB (byS y)) | _ => True) rfl (by kernel_rfl) rfl ?_
            conv => whnf
            repeat (first | (refine rest_vc ?_; conv => whnf) | (refine ⟨by decide, ?_⟩; conv => whnf))
            refine ⟨by omega, ?_⟩
            conv => whnf
            repeat (first | (refine rest_vc ?_; conv => whnf) | (refine ⟨by decide, ?_⟩; conv => whnf))
            refine CallIn.dto (hex_ok false (byS y) (by rw [byS_len]; omega) (byS_byte y)) (ha := by rw [u8s_byS]; rfl) (hf := by first | exact .inr rfl | exact .inl (Eq.symm (by rw [u8s_byS]; rfl))) (k := ?_)
            conv => whnf
            repeat (first | (refine rest_vc ?_; conv => whnf) | (refine ⟨by decide, ?_⟩; conv => whnf))
            refine must_iff.2 ⟨some_str y, ?_⟩
            conv => whnf
            repeat (first | (refine rest_vc ?_; conv => whnf) | (refine ⟨by decide, ?_⟩; conv => whnf))
            refine ⟨_, find_nam y b.names, ?_⟩
            have hv : ∀ z, z = Value.string noS → lkRes z false ((lkI eqBA y b.names 0).map fun x => (x.1, pvB x.2)) = .pure (pvB (namAtP b y)) := fun z hz => by
              subst hz
              unfold namAtP
              cases lkI eqBA y b.names 0 <;> rfl
            refine Eq.mpr (congrArg _ (hv (Value.string noS) rfl)) ?_
            conv => whnf
            repeat (first | (refine rest_vc ?_; conv => whnf) | (refine ⟨by decide, ?_⟩; conv => whnf))
            cases u
            · refine CallIn.o [7, 8] (lineF_ok 0 false true (u8b (txt (bO4 b) (((namK b).take i).map (nameWb b)))) ((nameWb b) y) (by simp) (by omega) (by omega)) (k := ?_)
              rintro r st' ⟨rfl, rfl⟩
              conv => whnf
              repeat (first | (refine rest_vc ?_; conv => whnf) | (refine ⟨by decide, ?_⟩; conv => whnf))
              refine ⟨(i + 1, true), fun o => if o = 8 then 1 else 0, ⟨hlt, by show true = used (txt _ _); rw [txt_take hget, used_snoc]⟩, by show (namK b).length - (i + 1) < (namK b).length - i; omega, rfl, ⟨rfl, rfl, rfl, rfl, congrArg (vI .i64) (succ64 (by omega)), trivial⟩, ?_, fun o ho => by have : o < 7 := ho; simp; omega⟩
              have e1 : u8b (txt (bO4 b) (((namK b).take (i + 1)).map (nameWb b))) = u8b (txt (bO4 b) (((namK b).take i).map (nameWb b))) ++ u8b (lineB ((nameWb b) y)) := by rw [txt_take hget, u8b_append]
              refine Eq.trans (b := upSt (fun o => if o = 8 then 1 else 0) 0 (bk 1 b.k ++ [.cells 95 [pcl true, .vref 8 0], .vec 0 5 1 false (u8b (txt (bO4 b) (((namK b).take i).map (nameWb b))) ++ u8b (lineB ((nameWb b) y))), .cells 65 [.vref 1 b.vr, .mref 2, .mref 3, .vref 4 b.vp, .mref 5, .mref 6], .gone, .vec 0 44 3 nl ((ordB b).map pvR), .cells 62 [.mref 5], .cells 63 [.mref 6]])) rfl ?_
              rw [← e1]
              rfl
            · refine CallIn.o [7, 8] (lineU_ok 0 false false (u8b (txt (bO4 b) (((namK b).take i).map (nameWb b)))) ((nameWb b) y) (by simp) (by omega) (by omega)) (k := ?_)
              rintro r st' ⟨rfl, rfl⟩
              conv => whnf
              repeat (first | (refine rest_vc ?_; conv => whnf) | (refine ⟨by decide, ?_⟩; conv => whnf))
              refine ⟨(i + 1, true), fun o => if o = 8 then 1 else 0, ⟨hlt, by show true = used (txt _ _); rw [txt_take hget, used_snoc]⟩, by show (namK b).length - (i + 1) < (namK b).length - i; omega, rfl, ⟨rfl, rfl, rfl, rfl, congrArg (vI .i64) (succ64 (by omega)), trivial⟩, ?_, fun o ho => by have : o < 7 := ho; simp; omega⟩
              have e1 : u8b (txt (bO4 b) (((namK b).take (i + 1)).map (nameWb b))) = u8b (txt (bO4 b) (((namK b).take i).map (nameWb b))) ++ u8b (lineB ((nameWb b) y)) := by rw [txt_take hget, u8b_append]
              refine Eq.trans (b := upSt (fun o => if o = 8 then 1 else 0) 0 (bk 1 b.k ++ [.cells 95 [pcl true, .vref 8 0], .vec 0 5 1 false (u8b (txt (bO4 b) (((namK b).take i).map (nameWb b))) ++ u8b (lineB ((nameWb b) y))), .cells 65 [.vref 1 b.vr, .mref 2, .mref 3, .vref 4 b.vp, .mref 5, .mref 6], .gone, .vec 0 44 3 nl ((ordB b).map pvR), .cells 62 [.mref 5], .cells 63 [.mref 6]])) rfl ?_
              rw [← e1]
              rfl
          · have hil : i = (namK b).length := by have : ¬ (i : Int) < ((namK b).length : Int) := of_decide_eq_false h2; omega
            subst hil
            cases u
            · have he : (bO5 b).data.toList = [] := by
                have : (bO5 b).data.toList.isEmpty = true := by
                  have := hu
                  unfold used at this
                  revert this
                  cases (bO5 b).data.toList.isEmpty <;> simp
                exact List.isEmpty_iff.1 this
              refine CallIn.o [7, 8] (strE_ok 0 true (u8b (bO5 b)) rfl (by unfold u8b; rw [he]; rfl)) (k := ?_)
              rintro r st' ⟨rfl, rfl⟩
              conv => whnf
              repeat (first | (refine rest_vc ?_; conv => whnf) | (refine ⟨by decide, ?_⟩; conv => whnf))
              refine unlockD (P' := b.k) (e := [.cells 95 [nilP, .vref 8 0], .vec 0 5 1 true (u8b (bO5 b)), .cells 65 [.vref 1 b.vr, .mref 2, .mref 3, .vref 4 b.vp, .mref 5, .mref 6], .gone, .vec 0 44 3 nl ((ordB b).map pvR), .cells 62 [.mref 5], .cells 63 [.mref 6]]) rfl ?_
              conv => whnf
              repeat (first | (refine rest_vc ?_; conv => whnf) | (refine ⟨by decide, ?_⟩; conv => whnf))
              refine ⟨congrArg vS ?_, rfl⟩
              rw [← bO5_eq]
              exact (bl_inj (by rw [show bl (bO5 b) = _ from he]; rfl)).symm
            · have hne : (bO5 b).data.toList ≠ [] := fun he => by
                have := hu
                unfold used at this
                rw [show (bO5 b).data.toList = _ from he] at this
                cases this
              refine CallIn.o [7, 8] (strU_ok 0 (bO5 b) hne) (k := ?_)
              rintro r st' ⟨rfl, rfl⟩
              conv => whnf
              repeat (first | (refine rest_vc ?_; conv => whnf) | (refine ⟨by decide, ?_⟩; conv => whnf))
              refine unlockD (P' := b.k) (e := [.cells 95 [.ptr 7 0, .vref 8 0], .gone, .cells 65 [.vref 1 b.vr, .mref 2, .mref 3, .vref 4 b.vp, .mref 5, .mref 6], .gone, .vec 0 44 3 nl ((ordB b).map pvR), .cells 62 [.mref 5], .cells 63 [.mref 6]]) rfl ?_
              conv => whnf
              repeat (first | (refine rest_vc ?_; conv => whnf) | (refine ⟨by decide, ?_⟩; conv => whnf))
              exact ⟨congrArg vS (bO5_eq b), rfl⟩
end Go.Proofs.YtafngalmkblipaaGreatDoor
/- law10: slices.SortFunc at rows: the shelf's contract. -/
set_option linter.all false
set_option maxHeartbeats 4000000
set_option maxRecDepth 100000
namespace Go.Proofs
def YtafngalmkblipaaGreatDoor.sortR_ren : Go.Shelf.Ren := ⟨fun | 6 => 78 | 15 => 101 | 14 => 100 | 28 => 133 | 29 => 134 | 20 => 125 | 21 => 126 | 22 => 127 | 23 => 128 | 24 => 129 | 25 => 130 | 26 => 131 | 27 => 132 | 46 => 162 | 47 => 163 | 48 => 164 | 49 => 165 | 50 => 166 | 57 => 180 | n => n, fun | 22 => 22 | 24 => 44 | 25 => 136 | 3 => 3 | 39 => 137 | 0 => 0 | 53 => 69 | 55 => 173 | 4 => 4 | 46 => 180 | 45 => 179 | 50 => 184 | 5 => 5 | 9 => 9 | 66 => 210 | 70 => 214 | 76 => 221 | 77 => 222 | n => n, fun | n => n⟩
theorem YtafngalmkblipaaGreatDoor.sortR : Go.Proofs.SlLaysF0.n6 Tryz.prog YtafngalmkblipaaGreatDoor.sortR_ren := {
  mixed := by kernel_rfl
  f6 := ⟨Tryz.f78.name, by decide, Tryz.func78.trans (congrArg some (by kernel_rfl))⟩
  f14 := ⟨Tryz.f100.name, by decide, Tryz.func100.trans (congrArg some (by kernel_rfl))⟩
  f15 := Tryz.func101.trans (congrArg some (by kernel_rfl))
  f20 := ⟨Tryz.f125.name, by decide, Tryz.func125.trans (congrArg some (by kernel_rfl))⟩
  f21 := ⟨Tryz.f126.name, by decide, Tryz.func126.trans (congrArg some (by kernel_rfl))⟩
  f22 := ⟨Tryz.f127.name, by decide, Tryz.func127.trans (congrArg some (by kernel_rfl))⟩
  f23 := ⟨Tryz.f128.name, by decide, Tryz.func128.trans (congrArg some (by kernel_rfl))⟩
  f24 := ⟨Tryz.f129.name, by decide, Tryz.func129.trans (congrArg some (by kernel_rfl))⟩
  f25 := ⟨Tryz.f130.name, by decide, Tryz.func130.trans (congrArg some (by kernel_rfl))⟩
  f26 := ⟨Tryz.f131.name, by decide, Tryz.func131.trans (congrArg some (by kernel_rfl))⟩
  f27 := ⟨Tryz.f132.name, by decide, Tryz.func132.trans (congrArg some (by kernel_rfl))⟩
  f28 := Tryz.func133.trans (congrArg some (by kernel_rfl))
  f29 := Tryz.func134.trans (congrArg some (by kernel_rfl))
  f46 := ⟨Tryz.f162.name, by decide, Tryz.func162.trans (congrArg some (by kernel_rfl))⟩
  f47 := Tryz.func163.trans (congrArg some (by kernel_rfl))
  f48 := Tryz.func164.trans (congrArg some (by kernel_rfl))
  f49 := ⟨Tryz.f165.name, by decide, Tryz.func165.trans (congrArg some (by kernel_rfl))⟩
  f50 := ⟨Tryz.f166.name, by decide, Tryz.func166.trans (congrArg some (by kernel_rfl))⟩
  f57 := ⟨Tryz.f180.name, by decide, Tryz.func180.trans (congrArg some (by kernel_rfl))⟩
  t0 := Tryz.underlying0
  a0 := Tryz.isAgg0
  z0 := Tryz.sizeOf0
  v0 := Tryz.zeroValue0
  t3 := Tryz.underlying3
  a3 := Tryz.isAgg3
  z3 := Tryz.sizeOf3
  v3 := Tryz.zeroValue3
  t4 := Tryz.underlying4
  a4 := Tryz.isAgg4
  z4 := Tryz.sizeOf4
  v4 := Tryz.zeroValue4
  t5 := Tryz.underlying5
  a5 := Tryz.isAgg5
  z5 := Tryz.sizeOf5
  v5 := Tryz.zeroValue5
  t9 := Tryz.underlying9
  a9 := Tryz.isAgg9
  z9 := Tryz.sizeOf9
  v9 := Tryz.zeroValue9
  t22 := Tryz.underlying22
  a22 := Tryz.isAgg22
  z22 := Tryz.sizeOf22
  v22 := Tryz.zeroValue22
  t25 := Tryz.underlying136
  a25 := Tryz.isAgg136
  z25 := Tryz.sizeOf136
  v25 := Tryz.zeroValue136
  t39 := Tryz.underlying137
  a39 := Tryz.isAgg137
  z39 := Tryz.sizeOf137
  v39 := Tryz.zeroValue137
  t45 := Tryz.underlying179
  a45 := Tryz.isAgg179
  z45 := Tryz.sizeOf179
  v45 := Tryz.zeroValue179
  t46 := Tryz.underlying180
  a46 := Tryz.isAgg180
  z46 := Tryz.sizeOf180
  v46 := Tryz.zeroValue180
  t50 := Tryz.underlying184
  a50 := Tryz.isAgg184
  z50 := Tryz.sizeOf184
  v50 := Tryz.zeroValue184
  t53 := Tryz.underlying69
  a53 := Tryz.isAgg69
  z53 := Tryz.sizeOf69
  v53 := Tryz.zeroValue69
  t55 := Tryz.underlying173
  a55 := Tryz.isAgg173
  z55 := Tryz.sizeOf173
  v55 := Tryz.zeroValue173
  t66 := Tryz.underlying210
  a66 := Tryz.isAgg210
  z66 := Tryz.sizeOf210
  v66 := Tryz.zeroValue210
  t70 := Tryz.underlying214
  a70 := Tryz.isAgg214
  z70 := Tryz.sizeOf214
  v70 := Tryz.zeroValue214
  t76 := Tryz.underlying221
  a76 := Tryz.isAgg221
  z76 := Tryz.sizeOf221
  v76 := Tryz.zeroValue221
  t77 := Tryz.underlying222
  a77 := Tryz.isAgg222
  z77 := Tryz.sizeOf222
  v77 := Tryz.zeroValue222 }
end Go.Proofs
namespace Go.Proofs.YtafngalmkblipaaGreatDoor
open Go Go.RowKit Go.Sy Go.Proofs Go.Sort Go.Shelf


theorem RF_rows {χ : Nat → Color} {w : World} : ∀ {l : List Rw} {us : List Value}, RF χ w 3 (l.map pvR) us → us = l.flatMap enR
  | [], us, h => h
  | x :: l, us, h => by
    obtain ⟨u, r, rfl, h1, h2, ⟨vs, rfl, h3⟩, h4⟩ := h
    obtain ⟨v1, r1, rfl, _, e1, h3⟩ := h3
    obtain ⟨v2, r2, rfl, _, e2, h3⟩ := h3
    obtain ⟨v3, r3, rfl, _, e3, h3⟩ := h3
    have h3 : r3 = [] := h3
    have e1 : v1 = .string x.t := e1
    have e2 : v2 = .int .i64 x.k := e2
    have e3 : v3 = .string x.x := e3
    subst e1 e2 e3 h3
    rw [RF_rows h4]
    rfl
theorem RF_of_rows {χ : Nat → Color} {w : World} : ∀ (l : List Rw), RF χ w 3 (l.map pvR) (l.flatMap enR)
  | [] => rfl
  | x :: l => by
    refine ⟨.agg (enR x).toArray, l.flatMap enR, rfl, rfl, fun y hy => ?_, ⟨enR x, rfl, ?_⟩, RF_of_rows l⟩
    · have : y ∈ enR x := by simpa [Value.cells] using hy
      simp only [enR, List.mem_cons, List.not_mem_nil, or_false] at this
      rcases this with rfl | rfl | rfl <;> rfl
    · exact ⟨_, _, rfl, rfl, rfl, _, _, rfl, rfl, rfl, _, _, rfl, rfl, rfl, rfl⟩

theorem flat_length : ∀ (l : List Rw), (l.flatMap enR).length = l.length * 3
  | [] => rfl
  | x :: l => by rw [List.flatMap_cons, List.length_append, flat_length l]; simp only [List.length_cons, List.length_nil]; omega
theorem flat_get : ∀ (l : List Rw) (j : Nat), j < l.length * 3 → (l.flatMap enR)[j]? = some (enR l[j / 3]!)[j % 3]!
  | [], j, h => by simp at h
  | x :: l, j, h => by
    rw [List.flatMap_cons]
    by_cases h3 : j < 3
    · rw [List.getElem?_append_left h3]
      have e0 : j / 3 = 0 := by omega
      have e1 : j % 3 = j := by omega
      rw [e0, e1]
      have : j = 0 ∨ j = 1 ∨ j = 2 := by omega
      rcases this with rfl | rfl | rfl <;> rfl
    · obtain ⟨k, rfl⟩ : ∃ k, j = k + 3 := ⟨j - 3, by omega⟩
      have hk : k < l.length * 3 := by rw [List.length_cons] at h; omega
      rw [List.getElem?_append_right (by show 3 ≤ _; omega)]
      have e0 : (k + 3) / 3 = k / 3 + 1 := by omega
      have e1 : (k + 3) % 3 = k % 3 := by omega
      rw [e0, e1]
      show (l.flatMap enR)[k + 3 - 3]? = _
      rw [Nat.add_sub_cancel, flat_get l k hk]
      simp
theorem flatK_eq (d : Array Rw) : (flatK enR 3 d).toList = d.toList.flatMap enR := by
  apply List.ext_getElem?
  intro j
  by_cases hj : j < d.size * 3
  · rw [flat_get _ _ (by simpa using hj)]
    have hs : j < (flatK enR 3 d).size := by simpa using hj
    have := get_flatK enR 3 d j hj
    rw [getElem!_pos _ j hs] at this
    rw [Array.getElem?_toList, Array.getElem?_eq_getElem hs, this]
    have h3 : j / 3 < d.size := by omega
    rw [getElem!_pos d.toList (j / 3) (by simpa using h3), getElem!_pos d (j / 3) h3, Array.getElem_toList]
  · rw [List.getElem?_eq_none (by simpa using hj), List.getElem?_eq_none (by rw [flat_length]; simpa using hj)]

theorem holdsK_of {w : World} {g : Nat} {cur : Array Value} {e : TypeId} {d : Array Rw} (hb : w.heap[g]? = some (.cells cur e (0, 0))) (h : cur.toList.take (d.size * 3) = d.toList.flatMap enR) : HoldsK enR 3 w g 0 d := by
  intro j hj
  have hj : j < d.size * 3 := by simpa using hj
  have hs : j < (flatK enR 3 d).size := by simpa using hj
  have e1 : cur[j]? = some (flatK enR 3 d)[j] := by
    have := congrArg (fun l => l[j]?) (h.trans (flatK_eq d).symm)
    simp only [List.getElem?_take, if_pos hj] at this
    rw [← Array.getElem?_eq_getElem hs]
    simpa using this
  refine ⟨?_, ?_⟩
  · rw [getElem!_pos _ j hs, Nat.zero_add]
    simp [World.cell?, hb, e1]
  · simp [World.frozen?, hb]

theorem put_heap {w : World} {g n : Nat} {cur : Array Value} {e : TypeId} {fz : Nat × Nat} {os : Array Obj} (d : Array Rw) (hb : w.heap[g]? = some (.cells cur e fz)) :
    (sortWorldK enR 3 w g 0 n d os).heap[g]? = some (.cells (putCells id 0 (flatK enR 3 d) cur) e fz) := by
  have hg : g < w.heap.size := (Array.getElem?_eq_some_iff.1 hb).1
  unfold sortWorldK grow putRowK putRow mapBlock
  rw [Array.getElem?_append_left (by simpa using hg)]
  simp [Array.getElem?_modify, hb, onCells]
theorem put_other {w : World} {g n : Nat} {os : Array Obj} (d : Array Rw) {b : Nat} (hb : b < w.heap.size) (hne : b ≠ g) :
    (sortWorldK enR 3 w g 0 n d os).heap[b]? = w.heap[b]? := by
  unfold sortWorldK grow putRowK putRow mapBlock
  rw [Array.getElem?_append_left (by simpa using hb)]
  simp [Array.getElem?_modify, Ne.symm hne]
theorem putCells_take {d : Array Rw} {cur : Array Value} (hs : d.size * 3 ≤ cur.size) : (putCells id 0 (flatK enR 3 d) cur).toList.take (d.size * 3) = d.toList.flatMap enR := by
  rw [← flatK_eq]
  apply List.ext_getElem?
  intro j
  rw [List.getElem?_take]
  split
  · rename_i hj
    have hs2 : j < (flatK enR 3 d).size := by simpa using hj
    have hjc : j < cur.size := by omega
    unfold putCells
    simp [hj, hs2, hjc]
  · rename_i hj
    rw [List.getElem?_eq_none (by simpa using hj)]

theorem ltOf_cfR (x y : Rw) : ltOf cfR x y = ltR x y := by
  unfold ltOf cfR ltR lsR cmpBA orI cmpI
  cases lsBA x.t y.t <;> cases eqBA x.t y.t <;> simp
  by_cases h : x.k < y.k
  · simp [h]
  · by_cases h2 : y.k < x.k <;> simp [h, h2]
theorem swoR : SWO (ltOf cfR) := by
  have e : ltOf cfR = ltR := by funext x y; exact ltOf_cfR x y
  rw [e]
  exact ⟨ltR_irrefl, fun x y z => ltR_trans, fun x y z => ltR_ntrans⟩
theorem cmpR (blk off size : Nat) (w : World) : CmpLays Tryz.prog 79 #[] enR 3 cfR blk off size w := fun m os dk _ x y => closureR x y _

theorem fnSortR : isFn Tryz.prog 78 := ⟨_, Tryz.func78, rfl, by kernel_rfl⟩
theorem sortRows : SortRows 78 := by
  intro v nl l hl hkey χ G w vs _ hargs hst hG
  obtain ⟨u, r, rfl, ⟨hone, m, hd, hg, hle, hu⟩, hr⟩ := hargs
  obtain ⟨u2, r, rfl, hu2, hr⟩ := hr
  have hr : r = [] := hr
  subst hr
  have hu2 : u2 = .func (.func 79) #[] #[] := hu2
  subst hu2
  obtain ⟨hd', us, hG', hown, hf, hnl, hcol⟩ := hst 0 _ rfl
  rw [hg] at hG'
  cases hG'
  have hu := hu rfl
  subst hu
  have hus := RF_rows hf
  subst hus
  rw [List.length_map] at hown
  obtain ⟨hown1, hrow⟩ := hown
  rcases hrow with ⟨hv, h0⟩ | ⟨g, c, cur, rfl, hbase, hb, h1, h2, h3, h4⟩
  · subst hv
    have hle0 : l = [] := List.eq_nil_of_length_eq_zero h0
    subst hle0
    have hc := AnyF.slices_SortFunc_none (P := Tryz.prog) (ρ := YtafngalmkblipaaGreatDoor.sortR_ren) { YtafngalmkblipaaGreatDoor.sortR with } none 0 (.func (.func 79) #[] #[]) w
    refine .inl ⟨fnSortR, hc.mono ?_⟩
    rintro e w' ⟨rfl, rfl⟩
    have e0 : srtR [] = [] := List.eq_nil_of_length_eq_zero (by rw [(srtR_perm []).length_eq]; rfl)
    rw [e0]
    exact ⟨.tup [], _, _, χ, G, ⟨rfl, rfl⟩, rfl, ⟨[], rfl, rfl⟩, hst, ⟨rfl, rfl, rfl, Nat.le_refl _, fun b _ hi => ⟨hi, rfl⟩, fun b _ hi => ⟨hi, rfl⟩⟩, Nat.le_refl _, fun o ho => ⟨fun g h => h, fun n hd hh => ⟨n, hd, hh, Nat.le_refl _, fun _ => rfl⟩⟩, hG⟩
  have hgl : g < w.heap.size := (Array.getElem?_eq_some_iff.1 hb).1
  have hcg : χ g = .own 0 := hcol g rfl
  have hH : HoldsK enR 3 w g 0 l.toArray := holdsK_of hb (by simpa using h4)
  have hc := AnyQ.slices_SortFunc (P := Tryz.prog) (ρ := YtafngalmkblipaaGreatDoor.sortR_ren) YtafngalmkblipaaGreatDoor.sortR 3 Tryz.isAgg44 Tryz.sizeOf44 enR (fun _ => rfl) (fun x v hv => by
      simp only [enR, List.mem_cons, List.not_mem_nil, or_false] at hv
      rcases hv with rfl | rfl | rfl <;> rfl) cfR swoR 79 #[] g 0 c l.toArray w (enters_of Tryz.func79 (by kernel_rfl) rfl) (cmpR _ _ _ _) hH hgl (by simp; omega)
  refine .inl ⟨fnSortR, ?_⟩
  rw [show l.toArray.size = l.length by simp] at hc
  refine hc.mono ?_
  rintro e w' ⟨rfl, d', n, os, hperm, hsort, rfl⟩
  have hd : d'.toList = srtR l := by
    refine srtR_eq hkey ?_ ?_
    · have e1 : d'.size = l.length := by rw [hperm.1]; simp
      have h2 := hperm.2.2
      have a1 : d'.extract 0 l.length = d' := by rw [← e1, Array.extract_size]
      have a2 : l.toArray.extract 0 l.length = l.toArray := by simp
      rw [a1, a2] at h2
      simpa using h2
    · refine List.pairwise_iff_getElem.2 fun i j hi hj hij => ?_
      have hj' : j < d'.size := by simpa using hj
      have hi' : i < d'.size := by simpa using hi
      have := hsort i j (Nat.zero_le _) hij (by have := hperm.1; simp at this; omega)
      rw [ltOf_cfR, getElem!_pos d' i hi', getElem!_pos d' j hj'] at this
      simpa using this
  have hds : d'.size = l.length := by rw [← Array.length_toList, hd, (srtR_perm l).length_eq]
  have hb' := put_heap (n := n) (os := os) d' hb
  refine ⟨.tup [], _, _, χ, G, ⟨rfl, rfl⟩, rfl, ⟨[], rfl, rfl⟩, ?_, ⟨rfl, rfl, rfl, by simp [sortWorldK, grow, putRowK, putRow, mapBlock, ahead], fun b hlt hi => ⟨hi, put_other d' hlt fun e => ?_⟩, fun b hlt hi => ⟨hi, put_other d' hlt fun e => ?_⟩⟩, Nat.le_refl _, fun o ho => ⟨fun g h => h, fun n hd hh => ⟨n, hd, hh, Nat.le_refl _, fun _ => rfl⟩⟩, hG⟩
  · intro o ob ho
    cases o with
    | zero =>
      cases ho
      refine ⟨_, (srtR l).flatMap enR, hg, ?_, RF_of_rows _, hnl, hcol⟩
      rw [List.length_map, (srtR_perm l).length_eq]
      refine ⟨by rw [flat_length, (srtR_perm l).length_eq], .inr ⟨g, c, _, rfl, hbase, hb', h1, h2, by simpa [putCells] using h3, ?_⟩⟩
      rw [← hd, ← hds]
      exact putCells_take (by rw [hds, h3]; exact Nat.mul_le_mul_right _ h1)
    | succ o => simp at ho
  · cases e; rw [hcg] at hi; cases hi
  · cases e; rw [hcg] at hi; cases hi
end Go.Proofs.YtafngalmkblipaaGreatDoor
/- law10: both books told by their texts and settings: the law's walk. -/
set_option linter.all false
set_option maxHeartbeats 4000000
set_option maxRecDepth 100000
namespace Go.Proofs.YtafngalmkblipaaGreatDoor
open Go Go.RowKit Go.Sy Go.Proofs

/-- What the walk asks of both books. -/
structure Pl (b : Bst) (r : Rst) : Prop where
  lines : blines b = rlines r
  rows : setRows b = rsetRows r
  prefs : b.prefs = r.prefs
  off : offB b = r.off
  tb : TxB b
  tr : TxR r
theorem equal_ok (b : Bst) (r : Rst) (h : Pl b r) : CallOk Tryz.prog 8 [.ptr 0 0, .ptr 7 0] (bs b ++ rs r) fun r' st' => r' = vB true ∧ st' = bs b ++ rs r := by
  have c1 := Text_ok sortRows b h.tb
  have c2 := rText_ok r h.tr
  rw [h.lines] at c1
  have c3 := Setting_ok sortRows b h.tb.rules.2.1 h.tb.rules.1 h.tb.rows.1 h.tb.prefs.1 h.tb.off.1 (fun e he => Nat.le_trans (h.tb.off.2.2 e he) (by decide)) h.tb.off.2.1
  have c4 := rSetting_ok r h.tr.rules.1 h.tr.rows.1 h.tr.prefs.1 h.tr.off.1
  rw [h.rows, h.prefs, h.off] at c3
  have hr1 : (rsetRows r).length ≤ 1000 := by unfold rsetRows; rw [List.length_take]; omega
  have hr2 := h.tr.prefs.1
  have hr3 := h.tr.off.1
  generalize txt noS (rlines r) = T at c1 c2
  refine callOk_of false 8 Tryz.func8 rfl rfl (Nat.le_refl _) ?_
  conv => whnf
  repeat (first | (refine rest_vc ?_; conv => whnf) | (refine ⟨by decide, ?_⟩; conv => whnf))
  refine CallIn.o [0, 1, 2, 3, 4, 5, 6] c1 (k := ?_)
  rintro _ _ ⟨rfl, rfl⟩
  conv => whnf
  repeat (first | (refine rest_vc ?_; conv => whnf) | (refine ⟨by decide, ?_⟩; conv => whnf))
  refine CallIn.o [7] c2 (k := ?_)
  rintro _ _ ⟨rfl, rfl⟩
  conv => whnf
  repeat (first | (refine rest_vc ?_; conv => whnf) | (refine ⟨by decide, ?_⟩; conv => whnf))
  split <;> rename_i g1 <;> (conv => whnf) <;> repeat (first | (refine rest_vc ?_; conv => whnf) | (refine ⟨by decide, ?_⟩; conv => whnf))
  · refine CallIn.o [0, 1, 2, 3, 4, 5, 6] c3 (k := ?_)
    rintro _ _ ⟨⟨n1, n2, n3, rfl⟩, rfl⟩
    conv => whnf
    repeat (first | (refine rest_vc ?_; conv => whnf) | (refine ⟨by decide, ?_⟩; conv => whnf))
    refine CallIn.o [7] c4 (k := ?_)
    rintro _ _ ⟨⟨m1, m2, m3, rfl⟩, rfl⟩
    conv => whnf
    repeat (first | (refine rest_vc ?_; conv => whnf) | (refine ⟨by decide, ?_⟩; conv => whnf))
    refine CallIn.to (settings_ok n1 n2 n3 m1 m2 m3 (rsetRows r) r.prefs r.off hr1 hr2 hr3) (k := ?_)
    conv => whnf
    repeat (first | (refine rest_vc ?_; conv => whnf) | (refine ⟨by decide, ?_⟩; conv => whnf))
    exact ⟨rfl, rfl⟩
  · simp at g1

abbrev scPP (x : Scr) : List PV := [.list 3 x.rn (x.rows.map pvR), .list 2 x.nn (x.names.map pvN), .list 6 x.an (x.acts.map pvA)]
def lP (b : Bst) (r : Rst) : List Ob := [.gone, .gone, .gone, .map b.k.asked, .map b.k.rules, .map b.k.off, .map b.k.names,
  .cells 75 [vI .i32 0, vI .u32 0, .vref 9 b.k.vr, .mref 3, .mref 4, .vref 10 b.k.vp, .mref 5, .mref 6], .cells 78 (rbC r), .vec b.k.vr 44 3 b.k.nr b.k.rows, .vec b.k.vp 100 5 b.k.np b.k.prefs]
theorem NamesPlays_ok (h39 : IsW 66) (h43 : IsW 69) (hso : SortS 72) (x : Scr) (hx : Good x)
    (hp : Pl (runI x x.acts.length).1 (runI x x.acts.length).2) :
    CallOk Tryz.prog 3 [.pure (pvX x)] [] fun r st' => st' = [] ∧ r = vB true := by
  have hk := known_ok h39
  have hb := begun_ok h39 h43 hso x hx
  generalize hrun : runI x x.acts.length = B at hb hp
  obtain ⟨b, r⟩ := B
  simp only at hb hp
  have he := equal_ok b r hp
  refine callOk_of true 0 Tryz.func3 rfl rfl (Nat.zero_le _) ?_
  conv => whnf
  repeat (refine ⟨by decide, ?_⟩; conv => whnf)
  refine rest_frc 0 rfl rfl ?_
  refine rest_vc ?_
  conv => whnf
  repeat (first | (refine rest_vc ?_; conv => whnf) | (refine ⟨by decide, ?_⟩; conv => whnf))
  refine CallIn.top (over_ok x hx.rows hx.names hx.acts) (k := ?_)
  rintro r' ⟨o, rfl⟩
  cases o with
  | true =>
    conv => whnf
    repeat (first | (refine rest_vc ?_; conv => whnf) | (refine ⟨by decide, ?_⟩; conv => whnf))
    refine CallIn.to (hk) (k := ?_)
    conv => whnf
    repeat (first | (refine rest_vc ?_; conv => whnf) | (refine ⟨by decide, ?_⟩; conv => whnf))
    exact ⟨rfl, rfl⟩
  | false =>
    conv => whnf
    repeat (first | (refine rest_vc ?_; conv => whnf) | (refine ⟨by decide, ?_⟩; conv => whnf))
    refine CallIn.oe [] hb (.tup [.ptr 7 0, .ptr 8 0, vB true]) (lP b r) rfl rfl ?_
    conv => whnf
    repeat (first | (refine rest_vc ?_; conv => whnf) | (refine ⟨by decide, ?_⟩; conv => whnf))
    refine CallIn.oe [7, 9, 3, 4, 10, 5, 6, 8] he (vB true) (lP b r) rfl rfl ?_
    conv => whnf
    repeat (first | (refine rest_vc ?_; conv => whnf) | (refine ⟨by decide, ?_⟩; conv => whnf))
    refine CallIn.to (hk) (k := ?_)
    conv => whnf
    repeat (first | (refine rest_vc ?_; conv => whnf) | (refine ⟨by decide, ?_⟩; conv => whnf))
    exact ⟨rfl, rfl⟩
end Go.Proofs.YtafngalmkblipaaGreatDoor
