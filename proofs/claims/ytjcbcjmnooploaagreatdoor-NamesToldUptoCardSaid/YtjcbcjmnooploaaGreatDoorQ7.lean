/- NamesTold: which name an address has, which addresses a name has, and which name the nearest one has: for every script, address and number where what is read is of bulk at most 1048576 the law gives true. Conditions: that bound, which the statement itself bears, and the listed variables of the library's, which the card ties. -/
import Derived.Test.YtjcbcjmnooploaaGreatDoorQ6
import Derived.StringKeys
import Derived.Shelf.SlIter.Nil
import Derived.Shelf.SlIter.Sorted
import Derived.Shelf.SortM.Plain
import Derived.Shelf.SortM.SortNone
import Derived.Test.YtjcbcjmnooploaaGreatDoorCards
import Derived.Test.YtjcbcjmnooploaaGreatDoorTie
import Derived.Deep.DeepHandedRow
import Derived.Lib.LaidU8
import Derived.Stop.LaidErr
import Derived.Deep.DeepWitnessRowRef
import Derived.SevenTiedAt
/- law10, the plain law: the reference's names stay in ascending order, and hold bytes. -/
set_option linter.all false
set_option maxHeartbeats 4000000
set_option maxRecDepth 100000
namespace Go.Proofs.YtjcbcjmnooploaaGreatDoor
open Go Go.RowKit Go.Sy Go.Proofs

abbrev bl (b : ByteArray) : List UInt8 := b.data.toList
/-- One name's address comes ahead of another's. -/
def ltN (a b : Nm) : Prop := bl (keyN a) < bl (keyN b)
theorem ltN_trans {a b c : Nm} (h : ltN a b) (g : ltN b c) : ltN a c := List.lt_trans h g
theorem ltN_not {a b : Nm} (h : ltN a b) : keyN a ≠ keyN b := fun e => by
  unfold ltN at h
  rw [e] at h
  exact List.lt_irrefl _ h
theorem leBA_iff {a b : ByteArray} : leBA a b = true ↔ bl a ≤ bl b := by rw [leBA_le]; exact decide_eq_true_iff
theorem lt_of_not_le {a b : ByteArray} (h : ¬ leBA a b = true) : bl b < bl a := by
  rw [leBA_iff] at h
  exact List.not_le.1 h
theorem lt_of_le {a b : ByteArray} (h : leBA a b = true) (hne : ¬ eqBA a b = true) : bl a < bl b := by
  rw [leBA_iff] at h
  rcases List.le_iff_lt_or_eq.1 h with h | h
  · exact h
  · exact absurd (eqBA_iff.2 (BA_ext h)) hne

theorem nmIns_sorted (n : Nm) {l : List Nm} (hl : l.Pairwise ltN) : ∀ i, i ≤ l.length →
    (nmIns n l i).1.Pairwise ltN ∧ (∀ z ∈ (nmIns n l i).1, ∀ j y, i ≤ j → l[j]? = some y → ltN z y) ∧ ((nmIns n l i).2 = false → ∀ z ∈ (nmIns n l i).1, ltN z n)
  | 0, _ => ⟨.nil, fun z hz => (by cases hz), fun _ z hz => (by cases hz)⟩
  | i + 1, hi => by
    obtain ⟨h1, h2, h3⟩ := nmIns_sorted n hl i (by omega)
    obtain ⟨y, hy⟩ : ∃ y, l[i]? = some y := ⟨_, List.getElem?_eq_getElem (by omega)⟩
    have hyj : ∀ j q, i + 1 ≤ j → l[j]? = some q → ltN y q := fun j q hj hq => by
      obtain ⟨a1, a2⟩ := List.getElem?_eq_some_iff.1 hy
      obtain ⟨b1, b2⟩ := List.getElem?_eq_some_iff.1 hq
      have := List.pairwise_iff_getElem.1 hl i j a1 b1 (by omega)
      rw [a2, b2] at this
      exact this
    have app : ∀ {L : List Nm} {x : Nm}, L.Pairwise ltN → (∀ z ∈ L, ltN z x) → (L ++ [x]).Pairwise ltN := fun hL hx =>
      List.pairwise_append.2 ⟨hL, List.pairwise_singleton _ _, fun a ha b hb => by rw [List.mem_singleton.1 hb]; exact hx a ha⟩
    have memApp : ∀ {L : List Nm} {x z : Nm}, z ∈ L ++ [x] → z ∈ L ∨ z = x := fun h => by simpa using h
    rw [nmIns, hy]
    simp only
    generalize hp : nmIns n l i = p at *
    obtain ⟨res, ins⟩ := p
    simp only at h1 h2 h3 ⊢
    have hzy : ∀ z ∈ res, ltN z y := fun z hz => h2 z hz i y (Nat.le_refl _) hy
    split
    · rename_i hc
      simp only [Bool.and_eq_true, Bool.not_eq_true'] at hc
      obtain ⟨hins, hle⟩ := hc
      have hn := h3 hins
      split
      · rename_i he
        have hk := eqBA_iff.1 he
        refine ⟨app h1 hn, fun z hz j q hj hq => ?_, fun e => (by cases e)⟩
        rcases memApp hz with hz | rfl
        · exact h2 z hz j q (by omega) hq
        · have := hyj j q hj hq
          unfold ltN at this ⊢
          rw [hk]
          exact this
      · rename_i he
        have hny : ltN n y := lt_of_le hle he
        refine ⟨app (app h1 hn) (fun z hz => ?_), fun z hz j q hj hq => ?_, fun e => (by cases e)⟩
        · rcases memApp hz with hz | rfl
          · exact hzy z hz
          · exact hny
        · rcases memApp hz with hz | rfl
          · rcases memApp hz with hz | rfl
            · exact h2 z hz j q (by omega) hq
            · exact ltN_trans hny (hyj j q hj hq)
          · exact hyj j q hj hq
    · rename_i hc
      split
      · rename_i he
        exact ⟨h1, fun z hz j q hj hq => h2 z hz j q (by omega) hq, h3⟩
      · rename_i he
        refine ⟨app h1 hzy, fun z hz j q hj hq => ?_, fun hins z hz => ?_⟩
        · rcases memApp hz with hz | rfl
          · exact h2 z hz j q (by omega) hq
          · exact hyj j q hj hq
        · rcases memApp hz with hz | rfl
          · exact h3 hins z hz
          · refine lt_of_not_le (fun hle => hc ?_)
            have hins : ins = false := hins
            rw [hins, hle]
            rfl
theorem nmOut_sorted (n : Nm) {l : List Nm} (hl : l.Pairwise ltN) : (nmOut n l).Pairwise ltN := by
  obtain ⟨h1, h2, h3⟩ := nmIns_sorted n hl l.length (Nat.le_refl _)
  unfold nmOut
  split
  · exact h1
  · rename_i h
    exact List.pairwise_append.2 ⟨h1, List.pairwise_singleton _ _, fun a ha b hb => by rw [List.mem_singleton.1 hb]; exact h3 (by simpa using h) a ha⟩

/-- The reference's names. -/
structure Ns (r : Rst) : Prop where
  srt : r.names.Pairwise ltN
  bts : ∀ n ∈ r.names, ∀ y ∈ n.a, 0 ≤ y ∧ y ≤ 255
  len : ∀ n ∈ r.names, n.a.length ≤ 16
theorem ns_new : Ns newR := ⟨.nil, fun n h => (by cases h), fun n h => (by cases h)⟩
theorem ns_name {r : Rst} {n : Nm} (h : Ns r) (hn : ∀ y ∈ n.a, 0 ≤ y ∧ y ≤ 255) : Ns (rnameB r n).2 := by
  unfold rnameB
  split
  · exact h
  · rename_i hg
    have hg : isNameB n = true := by simpa using hg
    have h16 : n.a.length ≤ 16 := by
      unfold isNameB sizeBad at hg
      simp only [Bool.and_eq_true, Bool.not_eq_true', Bool.or_eq_false_iff, decide_eq_false_iff_not] at hg
      omega
    split
    · exact h
    · refine ⟨nmOut_sorted _ h.srt, fun q hq => ?_, fun q hq => ?_⟩
      · have := (nmOut_perm (own n) r.names).mem_iff.1 hq
        rcases List.mem_cons.1 this with rfl | hq
        · exact hn
        · exact h.bts q (List.mem_filter.1 hq).1
      · have := (nmOut_perm (own n) r.names).mem_iff.1 hq
        rcases List.mem_cons.1 this with rfl | hq
        · exact h16
        · exact h.len q (List.mem_filter.1 hq).1
theorem ns_play {b : Bst} {r : Rst} (h : Ns r) (x : Scr) (hx : ∀ m, ∀ y ∈ (nameAt x m).a, 0 ≤ y ∧ y ≤ 255) (a : Ac) : Ns (playB b r x a).2.2 := by
  have keep : ∀ {r' : Rst}, r'.names = r.names → Ns r' := fun e => ⟨by rw [e]; exact h.srt, by rw [e]; exact h.bts, by rw [e]; exact h.len⟩
  unfold playB
  simp only
  split
  · apply keep
    show (rrowB r (rowAt x a.a)).2.names = r.names
    unfold rrowB
    repeat' split
    all_goals rfl
  · split
    · apply keep
      show (rruleB r (rowAt x a.a)).2.names = r.names
      unfold rruleB
      repeat' split
      all_goals rfl
    · split
      · apply keep
        show (runruleB r (rowAt x a.a).t (rowAt x a.a).k).2.names = r.names
        unfold runruleB
        repeat' split
        all_goals rfl
      · split
        · apply keep
          show (rprefB r a.s a.a a.b a.c).2.names = r.names
          unfold rprefB
          repeat' split
          all_goals rfl
        · split
          · apply keep
            show (rsetB r a.s a.a).2.names = r.names
            unfold rsetB
            simp only
            repeat' split
            all_goals rfl
          · split
            · apply keep
              show (rturnB r a.s (!(a.a == 0))).2.names = r.names
              unfold rturnB
              repeat' split
              all_goals rfl
            · split
              · exact ns_name h (hx a.a)
              · exact h
theorem run_ns (x : Scr) (hx : ∀ m, ∀ y ∈ (nameAt x m).a, 0 ≤ y ∧ y ≤ 255) : ∀ i, Ns (runI x i).2
  | 0 => ns_new
  | i + 1 => by
    unfold runI
    split
    · exact run_ns x hx i
    · exact ns_play (run_ns x hx i) x hx _

/-! ## names told -/
def tdO (o : Option (Nat × ByteArray)) : ByteArray × Bool := match o with | some x => (x.2, true) | none => (noS, false)
def toldB (b : Bst) (k : ByteArray) : ByteArray × Bool := tdO (lkI eqBA k b.names 0)
def zNm : Nm := ⟨true, [], noS⟩
def rtoldB (r : Rst) (k : ByteArray) : ByteArray × Bool := if 0 ≤ fstI (fun n => eqBA (keyN n) k) r.names 0 then ((r.names.getD (fstI (fun n => eqBA (keyN n) k) r.names 0).toNat zNm).x, true) else (noS, false)
/-- The addresses in order. -/
theorem keys_sorted {b : Bst} {r : Rst} (h : Lk b r) (hn : Ns r) : srtS (b.names.map (·.1)) = r.names.map keyN := by
  have hp : (srtS (b.names.map (·.1))).Perm (r.names.map keyN) := by
    refine (srtS_perm _).trans ?_
    have := h.names.map (·.1)
    unfold entN at this
    rw [List.map_map] at this
    exact this
  have hs : (srtS (b.names.map (·.1))).Pairwise fun a b => leBA a b = true := by
    unfold srtS
    refine List.pairwise_mergeSort ?_ ?_ _
    · intro a b c h1 h2
      rw [leBA_iff] at *
      exact List.le_trans h1 h2
    · intro a b
      simp only [Bool.or_eq_true, leBA_iff]
      exact List.le_total _ _
  have hr : (r.names.map keyN).Pairwise fun a b => leBA a b = true := by
    rw [List.pairwise_map]
    exact hn.srt.imp fun {a b} h => leBA_iff.2 (List.le_of_lt h)
  refine hp.eq_of_pairwise (fun a b _ _ h1 h2 => ?_) hs hr
  rw [leBA_iff] at h1 h2
  exact BA_ext (List.le_antisymm h1 h2)
end Go.Proofs.YtjcbcjmnooploaaGreatDoor
/- law10: slices.Sorted(maps.Keys(m)) by the shelf's contracts. -/
set_option linter.all false
set_option maxHeartbeats 4000000
set_option maxRecDepth 100000
namespace Go.Proofs.YtjcbcjmnooploaaGreatDoor
open Go Go.RowKit Go.Sy Go.Proofs Go.Maps Go.Sort Go.Shelf Go.WideShapes Go.WideMaps

theorem RM_keys {χ : Nat → Color} {w : World} : ∀ {es : List (ByteArray × PV)} {l : List MapEntry}, RM χ w (es.map fun e => (pvB e.1, e.2)) l → l.map (·.key) = es.map fun e => Value.string e.1
  | [], l, h => by have : l = [] := h; subst this; rfl
  | e :: es, l, h => by
    obtain ⟨x, t, rfl, h1, h2, h3⟩ := h
    have h1 : x.key = .string e.1 := h1
    rw [List.map_cons, List.map_cons, h1, RM_keys h3]

abbrev anyR : Value → Option (DataW Unit × List MemPlace) := fun _ => some (.nil, [])
theorem rd_key' {P : Program} {k : TypeId} (hk : P.underlying k = some .string) {x : MapEntry} {b : ByteArray} (h : x.key = .string b) (hb : b.size ≤ maxLen) : Go.WideElems.rd P k anyR x = some (.string b.data.toList, .nil) := by
  unfold Go.WideElems.rd
  rw [h, keyOf_string_mk hk hb]
  rfl
theorem sortedKeys_ok {P : Program} {ρK ρS : Ren} (LK : SlLaysZ.n10 P ρK) (LS : SlLaysZ.n6 P ρS) (hs : ∀ m, AnyZ.SortsIn P ρS Fence.wide m)
    (ek : ∀ args w, (callFunc (ρK.f 10) args).run P w = .ok (.enter (ρK.f 10) args) w) (e9 : ∀ args w, (callFunc (ρS.f 9) args).run P w = .ok (.enter (ρS.f 9) args) w) (hfn : isFn P (ρS.f 6)) (hk : P.underlying (ρK.t 26) = some .string)
    (T : TypeId) (es : List (ByteArray × PV)) (hl : es.length ≤ 100000) (hsz : ∀ e ∈ es, e.1.size ≤ maxLen) (hnd : (es.map (·.1)).Nodup) :
    CallOk P (ρS.f 6) [.clo (ρK.f 10) [.ptr 1 0]] [.map (es.map fun e => (pvB e.1, e.2)), .cells T [.mref 0]]
      fun r st' => r = .pure (.list 1 es.isEmpty ((srtS (es.map (·.1))).map pvB)) ∧ st' = [.map (es.map fun e => (pvB e.1, e.2)), .cells T [.mref 0]] := by
  intro χ G w vs hgl hargs hst hG
  obtain ⟨u, r, rfl, hu, hr⟩ := hargs
  have hr : r = [] := hr
  subst hr
  obtain ⟨us, rfl, hus⟩ := hu
  obtain ⟨p, r, rfl, ⟨g1, hg1, rfl⟩, hr⟩ := hus
  have hr : r = [] := hr
  subst hr
  obtain ⟨g0, es', clock, hg0, hc0, hh0, hrm, hborn, hbn⟩ := hst 0 _ rfl
  obtain ⟨g1', cs, hg1', hc1, hh1, hcl⟩ := hst 1 _ rfl
  rw [hg1] at hg1'
  cases hg1'
  obtain ⟨u, r, rfl, _, ⟨g0', hg0', rfl⟩, hr⟩ := hcl
  have hr : r = [] := hr
  subst hr
  rw [hg0] at hg0'
  cases hg0'
  have hkeys := RM_keys hrm
  have hlen : es'.length = es.length := by have := congrArg List.length hkeys; simpa using this
  have hkey : ∀ x ∈ es', ∃ b : ByteArray, x.key = .string b ∧ b.size ≤ maxLen := fun x hx => by
    have : x.key ∈ es.map fun e => Value.string e.1 := by rw [← hkeys]; exact List.mem_map_of_mem hx
    obtain ⟨e, he, hxe⟩ := List.mem_map.1 this
    exact ⟨e.1, hxe.symm, hsz e he⟩
  have hrg : es'.map (Go.WideElems.rg P (ρK.t 26) anyR) = es.map fun e => (Lit.string e.1.data.toList, DataW.nil) := by
    have key : ∀ (l : List MapEntry) (m : List (ByteArray × PV)), l.map (·.key) = m.map (fun e => Value.string e.1) → (∀ e ∈ m, e.1.size ≤ maxLen) → l.map (Go.WideElems.rg P (ρK.t 26) anyR) = m.map fun e => (Lit.string e.1.data.toList, DataW.nil) := by
      intro l
      induction l with
      | nil => intro m h _; cases m <;> simp at h ⊢
      | cons x l ih =>
        intro m h hm
        cases m with
        | nil => simp at h
        | cons e m =>
          simp only [List.map_cons, List.cons.injEq] at h ⊢
          refine ⟨?_, ih m h.2 fun e' he' => hm e' (by simp [he'])⟩
          unfold Go.WideElems.rg
          rw [rd_key' hk h.1 (hm e (by simp))]
          rfl
    exact key es' es hkeys hsz
  have hown : w.ownsMap P (ρK.t 26) anyR g0 es.length (.map ((es'.map (Go.WideElems.rg P (ρK.t 26) anyR)).foldr DataW.insert [])) := by
    refine ⟨es'.toArray, clock, hh0, ⟨by simp; unfold maxLen; omega, ⟨fun x hx => hborn x (by simpa using hx), by simpa using hbn, ?_⟩, fun x hx => ?_⟩, by simp; omega, rfl⟩
    · show (es'.map (·.key)).Nodup
      rw [hkeys]
      refine List.pairwise_map.2 ((List.pairwise_map.1 hnd).imp fun {a b} h e => h ?_)
      simpa using e
    · obtain ⟨b, hb1, hb2⟩ := hkey x (by simpa using hx)
      exact ⟨_, rd_key' hk hb1 hb2⟩
  obtain ⟨D0, hD⟩ : ∃ D0, D0 = (DataW.map ((es'.map (Go.WideElems.rg P (ρK.t 26) anyR)).foldr DataW.insert []) : DataW Unit) := ⟨_, rfl⟩
  rw [← hD] at hown
  have hperm : (strKeys D0).Perm ((es.map (·.1)).map (·.data.toList)) := by
    rw [hD, hrg]
    show (List.map (fun p : Lit × DataW Unit => strOf p.1) _).Perm _
    refine ((sorted_perm _).map _).trans ?_
    rw [List.map_map, List.map_map]
    exact .refl _
  have hsize : Maps.size D0 = es.length := by
    rw [hD, hrg, Maps.size_eq, (sorted_perm _).length_eq, List.length_map]
  have hb1 : g1 < w.heap.size := (Array.getElem?_eq_some_iff.1 hh1).1
  have hcell : w.cell? ⟨g1, 0, none⟩ = some (.map (some g0)) := by simp [World.cell?, hh1]
  have hseq := AnyZ.keys_gives LK Fence.wide 2 trivial rfl (by omega) g1 g0 es.length D0 w hb1 hcell hown
  have cS := AnyZ.sorted_in LS Fence.wide 5 trivial trivial trivial trivial rfl (by omega) (hs _) e9 (ρK.f 10) #[.pointer (some ⟨g1, 0, none⟩)] trivial ek _ _ (by rw [hsize]; unfold maxLen; omega) (by rw [hsize]; omega) w hseq
  refine .inl ⟨hfn, ?_⟩
  refine ((callsIn_wide (n := 5)).1 cS).mono ?_
  rintro e w' ⟨v, ss, rfl, hS, hrow, hnil, hbel⟩
  have hsrt : ss.mergeSort (fun x y => decide (x ≤ y)) = (srtS (es.map (·.1))).map (·.data.toList) := by
    rw [srtS_data]
    exact mergeSort_of_perm (hS.trans hperm)
  have hsl : ss.length = es.length := by rw [(hS.trans hperm).length_eq]; simp
  rw [hsrt] at hrow
  have hlen2 : ((srtS (es.map (·.1))).map pvB).length = es.length := by rw [List.length_map, (srtS_perm _).length_eq, List.length_map]
  have hkeep : Keep χ w (fun b => if b < w.heap.size then χ b else .imm) w' := fun b hb hi => ⟨by show (if b < w.heap.size then χ b else Color.imm) = _; rw [if_pos hb]; exact hi, hbel.block b hb⟩
  refine ⟨_, v, _, fun b => if b < w.heap.size then χ b else .imm, G, ⟨rfl, rfl⟩, rfl, ?_, ?_, ?_, Nat.le_refl _, fun o ho => ⟨fun g h => h, fun n hd hh => ⟨n, hd, hh, Nat.le_refl _, fun _ => rfl⟩⟩, hG⟩
  · show RP _ w' (.list 1 es.isEmpty _) v
    rcases hrow.2 with ⟨rfl, h0⟩ | ⟨g, c, cur, rfl, hbase, hb, q1, q2, q3, q4⟩
    · have h0' : es = [] := List.eq_nil_of_length_eq_zero (by omega)
      subst h0'
      have e0 : (srtS (([] : List (ByteArray × PV)).map (·.1))).map pvB = [] := List.eq_nil_of_length_eq_zero hlen2
      rw [e0]
      exact ⟨none, 0, [], rfl, Nat.le_refl _, Nat.zero_le _, fun _ => rfl, by simp, rfl, fun k u hu => by simp at hu⟩
    · have hne : ss ≠ [] := fun e => by have := hnil.2 e; cases this
      have hes : es ≠ [] := fun e => hne (List.eq_nil_of_length_eq_zero (by rw [hsl, e]; rfl))
      have hemp : es.isEmpty = false := by cases es with | nil => exact absurd rfl hes | cons _ _ => rfl
      rw [hemp]
      refine ⟨some ⟨g, 0, none⟩, c, ((srtS (es.map (·.1))).map (·.data.toList)).map encStr, by rw [hlen2, hsl], by rw [hlen2, ← hsl]; exact q1, q2, fun e => (by cases e), by simp, RF_of_strs _, ?_⟩
      intro k u hk'
      refine ⟨_, rfl, by show (if g < w.heap.size then χ g else Color.imm) = .imm; rw [if_neg (by omega)], ?_⟩
      rw [← q4] at hk'
      have hk2 : cur[k]? = some u := by
        rw [List.getElem?_take] at hk'
        split at hk'
        · simpa using hk'
        · cases hk'
      exact cell_of_heap hb hk2
  · intro o ob ho
    exact RO.mono hkeep (GGo.refl _) rfl (fun b hlt hc => ⟨by show (if b < w.heap.size then χ b else Color.imm) = _; rw [if_pos hlt]; exact hc, hbel.block b hlt⟩) (hst o ob ho)
  · exact ⟨hbel.os, hbel.tape, hbel.output, hbel.size, fun b hb hi => ⟨by show (if b < w.heap.size then χ b else Color.imm) = _; rw [if_pos hb]; exact hi, hbel.block b hb⟩, fun b hb hi => ⟨by show (if b < w.heap.size then χ b else Color.imm) = _; rw [if_pos hb]; exact hi, hbel.block b hb⟩⟩
end Go.Proofs.YtjcbcjmnooploaaGreatDoor
/- law10: which name an address has: both books. -/
set_option linter.all false
set_option maxHeartbeats 4000000
set_option maxRecDepth 100000
namespace Go.Proofs.YtjcbcjmnooploaaGreatDoor
open Go Go.RowKit Go.Sy Go.Proofs

theorem Told_ok (b : Bst) (nl : Bool) (l : List Int) : CallOk Tryz.prog 7 [.ptr 0 0, .pure (.list 1 nl (u8s l))] (bs b)
    fun r' st' => r' = .tup [vS (toldB b (strOfNums l)).1, vB (toldB b (strOfNums l)).2] ∧ st' = bs b := by
  refine callOkD_of false 7 Tryz.func7 rfl rfl (Nat.le_refl _) ?_
  refine handD_region ?_
  conv => whnf
  refine handD_region ?_
  conv => whnf
  refine CallIn.o [0, 1, 2, 3, 4, 5, 6] (enter_ok b.k) (k := ?_)
  rintro r st' ⟨rfl, rfl⟩
  conv => whnf
  refine handD_defer (pre := [_]) rfl rfl rfl rfl rfl rfl rfl ?_
  conv => whnf
  repeat (first | (refine rest_vc ?_; conv => whnf) | (refine ⟨by decide, ?_⟩; conv => whnf))
  refine ⟨_, rfl, rfl, ?_⟩
  refine rest_vc ?_
  conv => whnf
  repeat (first | (refine rest_vc ?_; conv => whnf) | (refine ⟨by decide, ?_⟩; conv => whnf))
  refine hand_draw [] (fun _ _ => True) rfl (by kernel_rfl) rfl ?_
  conv => whnf
  repeat (first | (refine rest_vc ?_; conv => whnf) | (refine ⟨by decide, ?_⟩; conv => whnf))
  refine ⟨⟨l, rfl⟩, fun l' hl => ?_⟩
  obtain rfl := u8s_inj hl
  conv => whnf
  repeat (first | (refine rest_vc ?_; conv => whnf) | (refine ⟨by decide, ?_⟩; conv => whnf))
  refine ⟨_, find_nam (strOfNums l) b.names, ?_⟩
  generalize hk : lkI eqBA (strOfNums l) b.names 0 = x
  have ht : toldB b (strOfNums l) = tdO x := by unfold toldB; rw [hk]
  rw [ht]
  cases x with
  | none =>
    conv => whnf
    repeat (first | (refine rest_vc ?_; conv => whnf) | (refine ⟨by decide, ?_⟩; conv => whnf))
    refine unlockD (P' := b.k) rfl ?_
    conv => whnf
    repeat (first | (refine rest_vc ?_; conv => whnf) | (refine ⟨by decide, ?_⟩; conv => whnf))
    exact ⟨rfl, rfl⟩
  | some x =>
    conv => whnf
    repeat (first | (refine rest_vc ?_; conv => whnf) | (refine ⟨by decide, ?_⟩; conv => whnf))
    refine unlockD (P' := b.k) rfl ?_
    conv => whnf
    repeat (first | (refine rest_vc ?_; conv => whnf) | (refine ⟨by decide, ?_⟩; conv => whnf))
    exact ⟨rfl, rfl⟩

theorem rTold_ok (r : Rst) (nl : Bool) (l : List Int) (hr : (r.names.length : Int) ≤ 1000) : CallOk Tryz.prog 8 [.ptr 0 0, .pure (.list 1 nl (u8s l))] (rs r)
    fun r' st' => r' = .tup [vS (rtoldB r (strOfNums l)).1, vB (rtoldB r (strOfNums l)).2] ∧ st' = rs r := by
  have hrl : (r.names.map pvN).length = r.names.length := List.length_map ..
  refine callOk_of false 1 Tryz.func8 rfl rfl (Nat.le_refl _) ?_
  conv => whnf
  repeat (first | (refine rest_vc ?_; conv => whnf) | (refine ⟨by decide, ?_⟩; conv => whnf))
  refine awp_loop (n := 36) (α := Nat) (fun i => i ≤ r.names.length ∧ fstI (fun n => eqBA (keyN n) (strOfNums l)) (r.names.drop i) i = fstI (fun n => eqBA (keyN n) (strOfNums l)) r.names 0)
    (fun i => [(0, .ptr 0 0), (1, .pure (.list 1 nl (u8s l))), (6, vI .i64 i)]) (fun _ => rs r) (fun i => r.names.length - i) 0 (fun _ => 0)
    ⟨Nat.zero_le _, rfl⟩ rfl ⟨rfl, rfl, rfl, trivial⟩ rfl (fun _ _ => rfl) (fun _ => ⟨Nat.le_refl _, rfl, rfl⟩) ?_
  rintro i ⟨hi, hc⟩
  conv => whnf
  repeat (first | (refine rest_vc ?_; conv => whnf) | (refine ⟨by decide, ?_⟩; conv => whnf))
  intro _
  conv => whnf
  repeat (first | (refine rest_vc ?_; conv => whnf) | (refine ⟨by decide, ?_⟩; conv => whnf))
  split <;> rename_i h <;> (conv => whnf) <;> repeat (first | (refine rest_vc ?_; conv => whnf) | (refine ⟨by decide, ?_⟩; conv => whnf))
  · have h := of_decide_eq_true h
    have hlt : i < r.names.length := by omega
    have hget : r.names[i]? = some r.names[i] := List.getElem?_eq_getElem hlt
    obtain ⟨y, hy⟩ : ∃ y, y = r.names[i] := ⟨_, rfl⟩
    rw [← hy] at hget
    have hld : ∀ q, (r.names.map pvN)[(i : Int).toNat]? = some q → pvN y = q := fun q hq => by
      rw [Int.toNat_natCast, List.getElem?_map, hget] at hq
      exact Option.some.inj hq
    refine hand_draw [] (fun _ _ => True) rfl (by kernel_rfl) rfl ?_
    conv => whnf
    repeat (first | (refine rest_vc ?_; conv => whnf) | (refine ⟨by decide, ?_⟩; conv => whnf))
    refine ⟨⟨by omega, by omega⟩, fun q hq => ?_⟩
    obtain rfl := hld q hq
    conv => whnf
    repeat (first | (refine rest_vc ?_; conv => whnf) | (refine ⟨by decide, ?_⟩; conv => whnf))
    refine ⟨⟨y.a, rfl⟩, fun l' hl => ?_⟩
    obtain rfl := u8s_inj hl
    conv => whnf
    repeat (first | (refine rest_vc ?_; conv => whnf) | (refine ⟨by decide, ?_⟩; conv => whnf))
    refine ⟨⟨l, rfl⟩, fun l' hl => ?_⟩
    obtain rfl := u8s_inj hl
    conv => whnf
    repeat (first | (refine rest_vc ?_; conv => whnf) | (refine ⟨by decide, ?_⟩; conv => whnf))
    split <;> rename_i h2 <;> (conv => whnf) <;> repeat (first | (refine rest_vc ?_; conv => whnf) | (refine ⟨by decide, ?_⟩; conv => whnf))
    · have h2 : eqBA (keyN y) (strOfNums l) = true := h2
      refine ⟨⟨by omega, by omega⟩, fun q hq => ?_⟩
      obtain rfl := hld q hq
      conv => whnf
      repeat (first | (refine rest_vc ?_; conv => whnf) | (refine ⟨by decide, ?_⟩; conv => whnf))
      have e : fstI (fun n => eqBA (keyN n) (strOfNums l)) r.names 0 = i := by rw [← hc, fstI_at hget, if_pos h2]
      have er : rtoldB r (strOfNums l) = (y.x, true) := by
        unfold rtoldB
        rw [e, if_pos (by omega), Int.toNat_natCast, List.getD_eq_getElem?_getD, hget]
        rfl
      rw [er]
      exact ⟨rfl, rfl⟩
    · have h2 : eqBA (keyN y) (strOfNums l) = false := h2
      refine ⟨i + 1, fun _ => 0, ⟨hlt, ?_⟩, ?_, rfl, ⟨rfl, rfl, congrArg (vI .i64) (succ64 (by omega)), trivial⟩, rfl, fun _ _ => rfl⟩
      · rw [← hc, fstI_at hget, if_neg (by rw [h2]; decide)]
      · omega
  · have h := of_decide_eq_false h
    have er : rtoldB r (strOfNums l) = (noS, false) := by
      unfold rtoldB
      rw [← hc, fstI_end (by omega)]
      rfl
    rw [er]
    exact ⟨rfl, rfl⟩
end Go.Proofs.YtjcbcjmnooploaaGreatDoor
/- law10: which addresses a name has: both books. -/
set_option linter.all false
set_option maxHeartbeats 4000000
set_option maxRecDepth 100000
namespace Go.Proofs
def YtjcbcjmnooploaaGreatDoor.keysA_ren : Go.Shelf.Ren := ⟨fun | 7 => 21 | 10 => 47 | n => n, fun | 23 => 65 | 26 => 9 | 3 => 9 | 28 => 76 | 0 => 0 | 27 => 75 | 33 => 92 | 4 => 4 | n => n, fun | n => n⟩
theorem YtjcbcjmnooploaaGreatDoor.keysA : Go.Proofs.SlLaysZ.n7 Tryz.prog YtjcbcjmnooploaaGreatDoor.keysA_ren := {
  mixed := by kernel_rfl
  f7 := ⟨Tryz.f21.name, by decide, Tryz.func21.trans (congrArg some (by kernel_rfl))⟩
  f10 := ⟨Tryz.f47.name, by decide, Tryz.func47.trans (congrArg some (by kernel_rfl))⟩
  t0 := Tryz.underlying0
  a0 := Tryz.isAgg0
  z0 := Tryz.sizeOf0
  v0 := Tryz.zeroValue0
  t4 := Tryz.underlying4
  a4 := Tryz.isAgg4
  z4 := Tryz.sizeOf4
  v4 := Tryz.zeroValue4
  t23 := Tryz.underlying65
  a23 := Tryz.isAgg65
  z23 := Tryz.sizeOf65
  v23 := Tryz.zeroValue65
  t26 := Tryz.underlying9
  a26 := Tryz.isAgg9
  z26 := Tryz.sizeOf9
  v26 := Tryz.zeroValue9
  t27 := Tryz.underlying75
  a27 := Tryz.isAgg75
  z27 := Tryz.sizeOf75
  v27 := Tryz.zeroValue75
  t28 := Tryz.underlying76
  a28 := Tryz.isAgg76
  z28 := Tryz.sizeOf76
  v28 := Tryz.zeroValue76
  t33 := Tryz.underlying92
  a33 := Tryz.isAgg92
  z33 := Tryz.sizeOf92
  v33 := Tryz.zeroValue92 }
def YtjcbcjmnooploaaGreatDoor.sortedA_ren : Go.Shelf.Ren := ⟨fun | 6 => 20 | 8 => 45 | 9 => 46 | 11 => 61 | 13 => 63 | 12 => 62 | 23 => 88 | 24 => 89 | 14 => 79 | 15 => 80 | 16 => 81 | 17 => 82 | 18 => 83 | 19 => 84 | 20 => 85 | 21 => 86 | 22 => 87 | 25 => 102 | 26 => 103 | 27 => 104 | 28 => 105 | 29 => 106 | 30 => 107 | 31 => 114 | n => n, fun | 26 => 9 | 28 => 76 | 24 => 71 | 0 => 0 | 3 => 3 | 37 => 107 | 48 => 57 | 50 => 136 | 4 => 4 | 40 => 127 | 39 => 126 | 45 => 132 | 5 => 5 | 9 => 9 | 51 => 148 | 55 => 152 | 57 => 162 | 58 => 163 | 33 => 92 | n => n, fun | n => n⟩
theorem YtjcbcjmnooploaaGreatDoor.sortedA : Go.Proofs.SlLaysZ.n6 Tryz.prog YtjcbcjmnooploaaGreatDoor.sortedA_ren := {
  mixed := by kernel_rfl
  f6 := ⟨Tryz.f20.name, by decide, Tryz.func20.trans (congrArg some (by kernel_rfl))⟩
  f8 := ⟨Tryz.f45.name, by decide, Tryz.func45.trans (congrArg some (by kernel_rfl))⟩
  f11 := ⟨Tryz.f61.name, by decide, Tryz.func61.trans (congrArg some (by kernel_rfl))⟩
  t0 := Tryz.underlying0
  a0 := Tryz.isAgg0
  z0 := Tryz.sizeOf0
  v0 := Tryz.zeroValue0
  t24 := Tryz.underlying71
  a24 := Tryz.isAgg71
  z24 := Tryz.sizeOf71
  v24 := Tryz.zeroValue71
  t26 := Tryz.underlying9
  a26 := Tryz.isAgg9
  z26 := Tryz.sizeOf9
  v26 := Tryz.zeroValue9
  t28 := Tryz.underlying76
  a28 := Tryz.isAgg76
  z28 := Tryz.sizeOf76
  v28 := Tryz.zeroValue76
  i26 := by kernel_rfl }
def YtjcbcjmnooploaaGreatDoor.sortA_ren : Go.Shelf.Ren := ⟨fun | 6 => 46 | 8 => 63 | 9 => 62 | 19 => 88 | 20 => 89 | 21 => 79 | 22 => 80 | 23 => 81 | 24 => 82 | 25 => 83 | 26 => 84 | 27 => 85 | 28 => 86 | 29 => 87 | 36 => 102 | 31 => 103 | 32 => 104 | 37 => 105 | 38 => 106 | 39 => 107 | 41 => 114 | n => n, fun | 27 => 71 | 29 => 9 | 3 => 3 | 32 => 107 | 26 => 71 | 0 => 0 | 44 => 57 | 46 => 136 | 4 => 4 | 36 => 127 | 35 => 126 | 41 => 132 | 5 => 5 | 9 => 9 | 53 => 148 | 57 => 152 | 63 => 162 | 64 => 163 | n => n, fun | n => n⟩
theorem YtjcbcjmnooploaaGreatDoor.sortA : Go.Proofs.SlLaysM.n6 Tryz.prog YtjcbcjmnooploaaGreatDoor.sortA_ren := {
  mixed := by kernel_rfl
  f6 := ⟨Tryz.f46.name, by decide, Tryz.func46.trans (congrArg some (by kernel_rfl))⟩
  f8 := Tryz.func63.trans (congrArg some (by kernel_rfl))
  f9 := ⟨Tryz.f62.name, by decide, Tryz.func62.trans (congrArg some (by kernel_rfl))⟩
  f19 := Tryz.func88.trans (congrArg some (by kernel_rfl))
  f20 := Tryz.func89.trans (congrArg some (by kernel_rfl))
  f21 := ⟨Tryz.f79.name, by decide, Tryz.func79.trans (congrArg some (by kernel_rfl))⟩
  f22 := ⟨Tryz.f80.name, by decide, Tryz.func80.trans (congrArg some (by kernel_rfl))⟩
  f23 := ⟨Tryz.f81.name, by decide, Tryz.func81.trans (congrArg some (by kernel_rfl))⟩
  f24 := ⟨Tryz.f82.name, by decide, Tryz.func82.trans (congrArg some (by kernel_rfl))⟩
  f25 := ⟨Tryz.f83.name, by decide, Tryz.func83.trans (congrArg some (by kernel_rfl))⟩
  f26 := ⟨Tryz.f84.name, by decide, Tryz.func84.trans (congrArg some (by kernel_rfl))⟩
  f27 := ⟨Tryz.f85.name, by decide, Tryz.func85.trans (congrArg some (by kernel_rfl))⟩
  f28 := ⟨Tryz.f86.name, by decide, Tryz.func86.trans (congrArg some (by kernel_rfl))⟩
  f29 := ⟨Tryz.f87.name, by decide, Tryz.func87.trans (congrArg some (by kernel_rfl))⟩
  f31 := Tryz.func103.trans (congrArg some (by kernel_rfl))
  f32 := Tryz.func104.trans (congrArg some (by kernel_rfl))
  f36 := ⟨Tryz.f102.name, by decide, Tryz.func102.trans (congrArg some (by kernel_rfl))⟩
  f37 := ⟨Tryz.f105.name, by decide, Tryz.func105.trans (congrArg some (by kernel_rfl))⟩
  f38 := ⟨Tryz.f106.name, by decide, Tryz.func106.trans (congrArg some (by kernel_rfl))⟩
  f39 := ⟨Tryz.f107.name, by decide, Tryz.func107.trans (congrArg some (by kernel_rfl))⟩
  f41 := ⟨Tryz.f114.name, by decide, Tryz.func114.trans (congrArg some (by kernel_rfl))⟩
  t0 := Tryz.underlying0
  a0 := Tryz.isAgg0
  z0 := Tryz.sizeOf0
  v0 := Tryz.zeroValue0
  t3 := Tryz.underlying3
  a3 := Tryz.isAgg3
  z3 := Tryz.sizeOf3
  v3 := Tryz.zeroValue3
  t4 := Tryz.underlying4
  a4 := Tryz.isAgg4
  z4 := Tryz.sizeOf4
  v4 := Tryz.zeroValue4
  t5 := Tryz.underlying5
  a5 := Tryz.isAgg5
  z5 := Tryz.sizeOf5
  v5 := Tryz.zeroValue5
  t9 := Tryz.underlying9
  a9 := Tryz.isAgg9
  z9 := Tryz.sizeOf9
  v9 := Tryz.zeroValue9
  t26 := Tryz.underlying71
  a26 := Tryz.isAgg71
  z26 := Tryz.sizeOf71
  v26 := Tryz.zeroValue71
  t27 := Tryz.underlying71
  a27 := Tryz.isAgg71
  z27 := Tryz.sizeOf71
  v27 := Tryz.zeroValue71
  t29 := Tryz.underlying9
  a29 := Tryz.isAgg9
  z29 := Tryz.sizeOf9
  v29 := Tryz.zeroValue9
  t32 := Tryz.underlying107
  a32 := Tryz.isAgg107
  z32 := Tryz.sizeOf107
  v32 := Tryz.zeroValue107
  t35 := Tryz.underlying126
  a35 := Tryz.isAgg126
  z35 := Tryz.sizeOf126
  v35 := Tryz.zeroValue126
  t36 := Tryz.underlying127
  a36 := Tryz.isAgg127
  z36 := Tryz.sizeOf127
  v36 := Tryz.zeroValue127
  t41 := Tryz.underlying132
  a41 := Tryz.isAgg132
  z41 := Tryz.sizeOf132
  v41 := Tryz.zeroValue132
  t44 := Tryz.underlying57
  a44 := Tryz.isAgg57
  z44 := Tryz.sizeOf57
  v44 := Tryz.zeroValue57
  t46 := Tryz.underlying136
  a46 := Tryz.isAgg136
  z46 := Tryz.sizeOf136
  v46 := Tryz.zeroValue136
  t53 := Tryz.underlying148
  a53 := Tryz.isAgg148
  z53 := Tryz.sizeOf148
  v53 := Tryz.zeroValue148
  t57 := Tryz.underlying152
  a57 := Tryz.isAgg152
  z57 := Tryz.sizeOf152
  v57 := Tryz.zeroValue152
  t63 := Tryz.underlying162
  a63 := Tryz.isAgg162
  z63 := Tryz.sizeOf162
  v63 := Tryz.zeroValue162
  t64 := Tryz.underlying163
  a64 := Tryz.isAgg163
  z64 := Tryz.sizeOf163
  v64 := Tryz.zeroValue163 }
end Go.Proofs
namespace Go.Proofs.YtjcbcjmnooploaaGreatDoor
open Go Go.RowKit Go.Sy Go.Proofs Go.Shelf

theorem sortsA (m : Nat) : AnyZ.SortsIn Tryz.prog YtjcbcjmnooploaaGreatDoor.sortedA_ren Fence.wide m :=
  ⟨fun blk off cap ss W hH hblk hsz => callsIn_wide.2 (AnyM.slices_Sort_string YtjcbcjmnooploaaGreatDoor.sortA blk off cap ss W hH hblk hsz),
   fun p cap W => callsIn_wide.2 (AnyM.slices_Sort_string_none YtjcbcjmnooploaaGreatDoor.sortA p cap W)⟩
abbrev fKeysA : FuncId := 21
abbrev fIterA : FuncId := 47
abbrev fSorted : FuncId := 20
theorem sortedA_ok (T : TypeId) (es : List (ByteArray × ByteArray)) (hl : es.length ≤ 100000) (hsz : ∀ e ∈ es, e.1.size ≤ maxLen) (hnd : (es.map (·.1)).Nodup) :
    CallOk Tryz.prog fSorted [.clo fIterA [.ptr 1 0]] [.map (enN es), .cells T [.mref 0]]
      fun r st' => r = .pure (.list 1 es.isEmpty ((srtS (es.map (·.1))).map pvB)) ∧ st' = [.map (enN es), .cells T [.mref 0]] := by
  have h := sortedKeys_ok (ρK := YtjcbcjmnooploaaGreatDoor.keysA_ren) (ρS := YtjcbcjmnooploaaGreatDoor.sortedA_ren) { YtjcbcjmnooploaaGreatDoor.keysA with } YtjcbcjmnooploaaGreatDoor.sortedA sortsA (enters_of Tryz.func47 (by kernel_rfl) rfl) (enters_of Tryz.func46 (by kernel_rfl) rfl)
    ⟨_, Tryz.func20, rfl, by kernel_rfl⟩ Tryz.underlying9 T (es.map fun e => (e.1, pvB e.2)) (by rw [List.length_map]; exact hl) (fun e he => by obtain ⟨e', he', rfl⟩ := List.mem_map.1 he; exact hsz e' he') (by rw [List.map_map]; exact hnd)
  have e1 : (es.map fun e => (e.1, pvB e.2)).map (fun e => (pvB e.1, e.2)) = enN es := by rw [List.map_map]; rfl
  have e2 : (es.map fun e => (e.1, pvB e.2)).map (·.1) = es.map (·.1) := by rw [List.map_map]; rfl
  have e3 : (es.map fun e => (e.1, pvB e.2)).isEmpty = es.isEmpty := by cases es <;> rfl
  rw [e1, e2, e3] at h
  exact h
theorem keysA_ok (es : List (PV × PV)) : CallOk Tryz.prog fKeysA [.mref 0] [.map es] fun r st' => r = .clo fIterA [.ptr 1 0] ∧ st' = [.map es, .cells 65 [.mref 0]] := by
  refine callOk_of false 2 Tryz.func21 rfl (by kernel_rfl) (by show 1 ≤ 2; decide) ?_
  conv => whnf
  repeat (first | (refine rest_vc ?_; conv => whnf) | (refine ⟨by decide, ?_⟩; conv => whnf))
  exact ⟨rfl, rfl⟩

/-! ## the addresses of a name -/
def namAt (b : Bst) (a : ByteArray) : ByteArray := match lkI eqBA a b.names 0 with | some x => x.2 | none => noS
def findB (b : Bst) (x : ByteArray) : List ByteArray := (srtS (b.names.map (·.1))).filter fun a => eqBA (namAt b a) x
abbrev pvL (a : ByteArray) : PV := .list 1 false (u8s (byS a))
theorem Find_ok (b : Bst) (x : ByteArray) (hl : (b.names.length : Int) ≤ 1000) (hsz : ∀ e ∈ b.names, e.1.size ≤ 1000000) (hnd : (b.names.map (·.1)).Nodup) : CallOk Tryz.prog 11 [.ptr 0 0, vS x] (bs b)
    fun r' st' => r' = .pure (.list 1 (findB b x).isEmpty ((findB b x).map pvL)) ∧ st' = bs b := by
  refine callOkD_of true 7 Tryz.func11 rfl rfl (Nat.le_refl _) ?_
  refine handD_region ?_
  conv => whnf
  refine handD_region ?_
  conv => whnf
  refine CallIn.o [0, 1, 2, 3, 4, 5, 6] (enter_ok b.k) (k := ?_)
  rintro r st' ⟨rfl, rfl⟩
  conv => whnf
  refine handD_defer (pre := [_]) rfl rfl rfl rfl rfl rfl rfl ?_
  conv => whnf
  repeat (first | (refine rest_vc ?_; conv => whnf) | (refine ⟨by decide, ?_⟩; conv => whnf))
  refine ⟨_, rfl, rfl, ?_⟩
  refine rest_vc ?_
  conv => whnf
  repeat (first | (refine rest_vc ?_; conv => whnf) | (refine ⟨by decide, ?_⟩; conv => whnf))
  refine CallIn.o [6] (keysA_ok (enN b.names)) (k := ?_)
  rintro r st' ⟨rfl, rfl⟩
  conv => whnf
  repeat (first | (refine rest_vc ?_; conv => whnf) | (refine ⟨by decide, ?_⟩; conv => whnf))
  refine CallIn.o [6, 7] (sortedA_ok 65 b.names (by omega) (fun e he => Nat.le_trans (hsz e he) (by unfold maxLen; omega)) hnd) (k := ?_)
  rintro r st' ⟨rfl, rfl⟩
  conv => whnf
  repeat (first | (refine rest_vc ?_; conv => whnf) | (refine ⟨by decide, ?_⟩; conv => whnf))
  have hkl : (srtS (b.names.map (·.1))).length = b.names.length := by rw [(srtS_perm _).length_eq, List.length_map]
  have hff : findB b x = (srtS (b.names.map (·.1))).filter fun a => eqBA (namAt b a) x := rfl
  rw [hff]
  generalize hks : srtS (b.names.map (·.1)) = ks at *
  have hpl : (ks.map pvB).length = ks.length := List.length_map ..
  have hol : ∀ i, (((ks.take i).filter fun a => eqBA (namAt b a) x).map pvL).length ≤ 1000 := fun i => by
    rw [List.length_map]
    have := List.length_filter_le (fun a => eqBA (namAt b a) x) (ks.take i)
    have : (ks.take i).length ≤ ks.length := by rw [List.length_take]; omega
    omega
  intro _
  conv => whnf
  repeat (first | (refine rest_vc ?_; conv => whnf) | (refine ⟨by decide, ?_⟩; conv => whnf))
  refine hand_ghost 7 27 1 rfl ?_
  refine awp_loop (n := 46) (α := Nat) (fun i => i ≤ ks.length) (fun i => [(0, .ptr 0 0), (1, vS x), (7, .vref 8 0), (24, .pure (.list 1 b.names.isEmpty (ks.map pvB))), (25, vI .i64 (ks.length : Nat)), (26, vI .i64 i)])
    (fun i => bk 1 b.k ++ [.cells 65 [.mref 6], .vec 0 27 1 (((ks.take i).filter fun a => eqBA (namAt b a) x).map pvL).isEmpty (((ks.take i).filter fun a => eqBA (namAt b a) x).map pvL)]) (fun i => ks.length - i) 0 (fun _ => 0)
    (Nat.zero_le _) rfl ⟨rfl, rfl, rfl, rfl, congrArg (vI .i64) (by rw [hpl]), rfl, trivial⟩ rfl (fun _ _ => rfl) (fun _ => ⟨(by show 7 ≤ 9; omega), rfl, rfl⟩) ?_
  rintro i hi
  conv => whnf
  repeat (first | (refine rest_vc ?_; conv => whnf) | (refine ⟨by decide, ?_⟩; conv => whnf))
  split <;> rename_i h2 <;> (conv => whnf) <;> repeat (first | (refine rest_vc ?_; conv => whnf) | (refine ⟨by decide, ?_⟩; conv => whnf))
  · have hlt : i < ks.length := by have : (i : Int) < (ks.length : Int) := of_decide_eq_true h2; omega
    have hq : ks[i]? = some ks[i] := List.getElem?_eq_getElem hlt
    obtain ⟨y, hy⟩ : ∃ y, y = ks[i] := ⟨_, rfl⟩
    rw [← hy] at hq
    have hs := filter_succ (fun a => eqBA (namAt b a) x) hq
    have hi1 := hol i
    generalize hoo : (ks.take i).filter (fun a => eqBA (namAt b a) x) = o at *
    refine ⟨⟨by omega, by omega⟩, fun q hq' => ?_⟩
    obtain rfl : pvB y = q := by
      rw [Int.toNat_natCast, List.getElem?_map, hq] at hq'
      exact Option.some.inj hq'
    conv => whnf
    repeat (first | (refine rest_vc ?_; conv => whnf) | (refine ⟨by decide, ?_⟩; conv => whnf))
    refine must_iff.2 ⟨some_str y, ?_⟩
    conv => whnf
    repeat (first | (refine rest_vc ?_; conv => whnf) | (refine ⟨by decide, ?_⟩; conv => whnf))
    refine ⟨_, find_nam y b.names, ?_⟩
    have hv : ∀ z, z = Value.string noS → lkRes z false ((lkI eqBA y b.names 0).map fun x => (x.1, pvB x.2)) = .pure (pvB (namAt b y)) := fun z hz => by
      subst hz
      unfold namAt
      cases lkI eqBA y b.names 0 <;> rfl
    refine Eq.mpr (congrArg _ (hv (Value.string noS) rfl)) ?_
    conv => whnf
    repeat (first | (refine rest_vc ?_; conv => whnf) | (refine ⟨by decide, ?_⟩; conv => whnf))
    have hcy : y.size ≤ 140737488355328 := by
      have hm : y ∈ b.names.map (·.1) := by
        refine (srtS_perm _).mem_iff.1 ?_
        rw [hks]
        exact List.mem_of_getElem? hq
      obtain ⟨e, he, rfl⟩ := List.mem_map.1 hm
      exact Nat.le_trans (hsz e he) (by omega)
    split <;> rename_i h3 <;> (conv => whnf) <;> repeat (first | (refine rest_vc ?_; conv => whnf) | (refine ⟨by decide, ?_⟩; conv => whnf))
    · refine ⟨by exact hcy, ?_⟩
      conv => whnf
      repeat (first | (refine rest_vc ?_; conv => whnf) | (refine ⟨by decide, ?_⟩; conv => whnf))
      refine ⟨by exact Nat.le_trans (Nat.mul_le_mul_right _ (Nat.add_le_add_right hi1 1)) (by decide), ?_⟩
      conv => whnf
      repeat (first | (refine rest_vc ?_; conv => whnf) | (refine ⟨by decide, ?_⟩; conv => whnf))
      have he : (ks.take (i + 1)).filter (fun a => eqBA (namAt b a) x) = o ++ [y] := by rw [hs, if_pos (show eqBA (namAt b y) x = true from h3)]
      refine ⟨i + 1, fun o => if o = 8 then 1 else 0, hlt, by omega, rfl, ⟨rfl, rfl, rfl, rfl, rfl, congrArg (vI .i64) (succ64 (by omega)), trivial⟩, ?_, fun o ho => by have : o < 7 := ho; simp; omega⟩
      rw [he, List.map_append, List.map_cons, List.map_nil, ← isEmpty_snoc (o.map pvL).isEmpty]
      show _ = upSt _ 0 (bk 1 b.k ++ [_, .vec 0 27 1 _ (o.map pvL ++ [.list 1 false (u8s (byS y))])])
      rw [u8s_byS]
      rfl
    · have he : (ks.take (i + 1)).filter (fun a => eqBA (namAt b a) x) = o := by rw [hs, if_neg (by rw [show eqBA (namAt b y) x = false from h3]; decide), List.append_nil]
      refine ⟨i + 1, fun _ => 0, hlt, by omega, rfl, ⟨rfl, rfl, rfl, rfl, rfl, congrArg (vI .i64) (succ64 (by omega)), trivial⟩, ?_, fun _ _ => rfl⟩
      rw [he]
      rfl
  · have hil : i = ks.length := by have : ¬ (i : Int) < (ks.length : Int) := of_decide_eq_false h2; omega
    subst hil
    have hi1 := hol ks.length
    rw [List.take_length] at hi1 ⊢
    refine unlockD (P' := b.k) (e := [.cells 65 [.mref 6], .vec 0 27 1 ((ks.filter fun a => eqBA (namAt b a) x).map pvL).isEmpty ((ks.filter fun a => eqBA (namAt b a) x).map pvL)]) rfl ?_
    conv => whnf
    repeat (first | (refine rest_vc ?_; conv => whnf) | (refine ⟨by decide, ?_⟩; conv => whnf))
    exact ⟨congrArg (fun e => SV.pure (.list 1 e ((ks.filter fun a => eqBA (namAt b a) x).map pvL))) (by cases ks.filter fun a => eqBA (namAt b a) x <;> rfl), rfl⟩

/-- The reference's. -/
def rfindB (r : Rst) (x : ByteArray) : List Nm := r.names.filter fun n => eqBA n.x x
abbrev pvA2 (n : Nm) : PV := .list 1 (u8s n.a).isEmpty (u8s n.a)
theorem rFind_ok (r : Rst) (x : ByteArray) (hr : (r.names.length : Int) ≤ 1000) (ha : ∀ n ∈ r.names, (n.a.length : Int) ≤ 1000000) : CallOk Tryz.prog 12 [.ptr 0 0, vS x] (rs r)
    fun r' st' => r' = .pure (.list 1 (rfindB r x).isEmpty ((rfindB r x).map pvA2)) ∧ st' = rs r := by
  have hrl : (r.names.map pvN).length = r.names.length := List.length_map ..
  have hol : ∀ i, (((r.names.take i).filter fun n => eqBA n.x x).map pvA2).length ≤ 1000 := fun i => by
    rw [List.length_map]
    have := List.length_filter_le (fun n : Nm => eqBA n.x x) (r.names.take i)
    have : (r.names.take i).length ≤ r.names.length := by rw [List.length_take]; omega
    omega
  refine callOk_of true 1 Tryz.func12 rfl rfl (Nat.le_refl _) ?_
  conv => whnf
  repeat (first | (refine rest_vc ?_; conv => whnf) | (refine ⟨by decide, ?_⟩; conv => whnf))
  refine hand_ghost 5 27 1 rfl ?_
  refine awp_loop (n := 39) (α := Nat) (fun i => i ≤ r.names.length) (fun i => [(0, .ptr 0 0), (1, vS x), (5, .vref 1 0), (6, vI .i64 i)])
    (fun i => rs r ++ [.vec 0 27 1 (((r.names.take i).filter fun n => eqBA n.x x).map pvA2).isEmpty (((r.names.take i).filter fun n => eqBA n.x x).map pvA2)]) (fun i => r.names.length - i) 0 (fun _ => 0)
    (Nat.zero_le _) rfl ⟨rfl, rfl, rfl, rfl, trivial⟩ rfl (fun _ _ => rfl) (fun _ => ⟨(by show 1 ≤ 2; omega), rfl, rfl⟩) ?_
  rintro i hi
  conv => whnf
  repeat (first | (refine rest_vc ?_; conv => whnf) | (refine ⟨by decide, ?_⟩; conv => whnf))
  intro _
  conv => whnf
  repeat (first | (refine rest_vc ?_; conv => whnf) | (refine ⟨by decide, ?_⟩; conv => whnf))
  split <;> rename_i h2 <;> (conv => whnf) <;> repeat (first | (refine rest_vc ?_; conv => whnf) | (refine ⟨by decide, ?_⟩; conv => whnf))
  · have hlt : i < r.names.length := by have : (i : Int) < ((r.names.map pvN).length : Int) := of_decide_eq_true h2; omega
    have hq : r.names[i]? = some r.names[i] := List.getElem?_eq_getElem hlt
    obtain ⟨y, hy⟩ : ∃ y, y = r.names[i] := ⟨_, rfl⟩
    rw [← hy] at hq
    have hld : ∀ q, (r.names.map pvN)[(i : Int).toNat]? = some q → pvN y = q := fun q hq' => by
      rw [Int.toNat_natCast, List.getElem?_map, hq] at hq'
      exact Option.some.inj hq'
    have bd : 0 ≤ (i : Int) ∧ (i : Int) < ((r.names.map pvN).length : Int) := ⟨by omega, by omega⟩
    have hs := filter_succ (fun n => eqBA n.x x) hq
    have hi1 := hol i
    have hya := ha y (List.mem_of_getElem? hq)
    generalize hoo : (r.names.take i).filter (fun n => eqBA n.x x) = o at *
    refine ⟨bd, fun q hq' => ?_⟩
    obtain rfl := hld q hq'
    conv => whnf
    repeat (first | (refine rest_vc ?_; conv => whnf) | (refine ⟨by decide, ?_⟩; conv => whnf))
    split <;> rename_i h3 <;> (conv => whnf) <;> repeat (first | (refine rest_vc ?_; conv => whnf) | (refine ⟨by decide, ?_⟩; conv => whnf))
    · refine ⟨bd, fun q hq' => ?_⟩
      obtain rfl := hld q hq'
      conv => whnf
      repeat (first | (refine rest_vc ?_; conv => whnf) | (refine ⟨by decide, ?_⟩; conv => whnf))
      refine ⟨by (rw [u8s_len]; show _ * 1 ≤ _; omega), ?_⟩
      conv => whnf
      repeat (first | (refine rest_vc ?_; conv => whnf) | (refine ⟨by decide, ?_⟩; conv => whnf))
      refine ⟨by exact Nat.le_trans (Nat.mul_le_mul_right _ (Nat.add_le_add_right hi1 1)) (by decide), ?_⟩
      conv => whnf
      repeat (first | (refine rest_vc ?_; conv => whnf) | (refine ⟨by decide, ?_⟩; conv => whnf))
      have he : (r.names.take (i + 1)).filter (fun n => eqBA n.x x) = o ++ [y] := by rw [hs, if_pos (show eqBA y.x x = true from h3)]
      refine ⟨i + 1, fun o => if o = 1 then 1 else 0, hlt, by omega, rfl, ⟨rfl, rfl, rfl, congrArg (vI .i64) (succ64 (by omega)), trivial⟩, ?_, fun o ho => by have : o < 1 := ho; simp; omega⟩
      rw [he, List.map_append, List.map_cons, List.map_nil, ← isEmpty_snoc (o.map pvA2).isEmpty]
      rfl
    · have he : (r.names.take (i + 1)).filter (fun n => eqBA n.x x) = o := by rw [hs, if_neg (by rw [show eqBA y.x x = false from h3]; decide), List.append_nil]
      refine ⟨i + 1, fun _ => 0, hlt, by omega, rfl, ⟨rfl, rfl, rfl, congrArg (vI .i64) (succ64 (by omega)), trivial⟩, ?_, fun _ _ => rfl⟩
      rw [he]
      rfl
  · have hil : i = r.names.length := by have : ¬ (i : Int) < ((r.names.map pvN).length : Int) := of_decide_eq_false h2; omega
    subst hil
    have hi1 := hol r.names.length
    rw [List.take_length] at hi1 ⊢
    conv => whnf
    repeat (first | (refine rest_vc ?_; conv => whnf) | (refine ⟨by decide, ?_⟩; conv => whnf))
    have hemp : ((r.names.filter fun n => eqBA n.x x).map pvA2).isEmpty = (rfindB r x).isEmpty := by unfold rfindB; cases r.names.filter fun n => eqBA n.x x <;> rfl
    refine ⟨?_, rfl⟩
    rw [← hemp]
    rfl
end Go.Proofs.YtjcbcjmnooploaaGreatDoor
/- law10: how many bits two addresses have in common. -/
set_option linter.all false
set_option maxHeartbeats 4000000
set_option maxRecDepth 100000
namespace Go.Proofs.YtjcbcjmnooploaaGreatDoor
open Go Go.RowKit Go.Sy Go.Proofs

def bitAt (l : List Int) (n : Nat) : Int := (l.getD (n / 8) 0 / 2 ^ (7 - n % 8)) % 2
def cmF (a b : List Int) : Nat → Nat → Nat
  | 0, n => n
  | f + 1, n => if decide (n < 8 * a.length) && (bitAt a n == bitAt b n) then cmF a b f (n + 1) else n
abbrev cmN (a b : List Int) (n : Nat) : Nat := cmF a b (8 * a.length - n) n
theorem cmN_at (a b : List Int) (n : Nat) : cmN a b n = if decide (n < 8 * a.length) && (bitAt a n == bitAt b n) then cmN a b (n + 1) else n := by
  unfold cmN
  by_cases h : n < 8 * a.length
  · rw [show 8 * a.length - n = (8 * a.length - (n + 1)) + 1 by omega, cmF]
  · rw [show 8 * a.length - n = 0 by omega, cmF, decide_eq_false h]
    rfl
def Bts (l : List Int) : Prop := ∀ y ∈ l, 0 ≤ y ∧ y ≤ 255
theorem Bts.at {l : List Int} (h : Bts l) (i : Nat) : 0 ≤ l.getD i 0 ∧ l.getD i 0 ≤ 255 := by
  rw [List.getD_eq_getElem?_getD]
  cases hc : l[i]? with
  | none => exact ⟨Int.le_refl _, by decide⟩
  | some y => exact h y (List.mem_of_getElem? hc)
theorem bit_val {x : Int} (h0 : 0 ≤ x) (h1 : x ≤ 255) {k : Nat} (hk : k ≤ 7) : iAnd .u8 (iShr .u8 x (k : Int)) 1 = (x / 2 ^ k) % 2 := by
  obtain ⟨m, rfl⟩ := Int.eq_ofNat_of_zero_le h0
  have hm : m < 256 := by omega
  have key : ∀ m : Fin 256, ∀ k : Fin 8, iAnd .u8 (iShr .u8 (m.val : Int) (k.val : Int)) 1 = ((m.val : Int) / 2 ^ k.val) % 2 := by decide +kernel
  exact key ⟨m, hm⟩ ⟨k, by omega⟩

theorem bit_val' {x : Int} (h0 : 0 ≤ x) (h1 : x ≤ 255) {j : Nat} (hj : j < 8) : iAnd .u8 (iShr .u8 x (7 - (j : Int))) 1 = (x / 2 ^ (7 - j)) % 2 := by
  rw [show (7 - (j : Int)) = ((7 - j : Nat) : Int) by omega, bit_val h0 h1 (by omega)]
theorem bitAt_at (l : List Int) {i j : Nat} (hj : j < 8) : bitAt l (8 * i + j) = (l.getD i 0 / 2 ^ (7 - j)) % 2 := by
  unfold bitAt
  rw [show (8 * i + j) / 8 = i by omega, show (8 * i + j) % 8 = j by omega]
theorem u8_get {l : List Int} {i : Nat} (h : i < l.length) {q : PV} (hq : (u8s l)[(i : Int).toNat]? = some q) : PV.val (.int .u8 (l.getD i 0)) = q := by
  rw [Int.toNat_natCast] at hq
  unfold u8s at hq
  rw [List.getElem?_map, List.getElem?_eq_getElem h] at hq
  rw [List.getD_eq_getElem?_getD, List.getElem?_eq_getElem h]
  exact Option.some.inj hq

theorem common_ok (na nb : Bool) (a b : List Int) (ha : Bts a) (hb : Bts b) (hl : b.length = a.length) (hlen : (a.length : Int) ≤ 1000000) :
    CallOk Tryz.prog 22 [.pure (.list 1 na (u8s a)), .pure (.list 1 nb (u8s b))] [] fun r st' => st' = [] ∧ r = vI .i64 (cmN a b 0 : Nat) := by
  have hul : ∀ l : List Int, (u8s l).length = l.length := fun l => u8s_len l
  refine callOk_of true 0 Tryz.func22 rfl rfl (Nat.le_refl _) ?_
  conv => whnf
  repeat (first | (refine rest_vc ?_; conv => whnf) | (refine ⟨by decide, ?_⟩; conv => whnf))
  intro _
  conv => whnf
  repeat (first | (refine rest_vc ?_; conv => whnf) | (refine ⟨by decide, ?_⟩; conv => whnf))
  refine awp_loop (n := 40) (α := Nat) (fun i => i ≤ a.length ∧ cmN a b (8 * i) = cmN a b 0) (fun i => [(0, .pure (.list 1 na (u8s a))), (1, .pure (.list 1 nb (u8s b))), (8, vI .i64 (a.length : Nat)), (9, vI .i64 i)])
    (fun _ => []) (fun i => a.length - i) 0 (fun _ => 0) ⟨Nat.zero_le _, rfl⟩ rfl ⟨rfl, rfl, congrArg (vI .i64) (by rw [hul]), rfl, trivial⟩ rfl (fun _ _ => rfl) (fun _ => ⟨Nat.le_refl _, rfl, rfl⟩) ?_
  rintro i ⟨hi, hc⟩
  conv => whnf
  repeat (first | (refine rest_vc ?_; conv => whnf) | (refine ⟨by decide, ?_⟩; conv => whnf))
  split <;> rename_i h1 <;> (conv => whnf) <;> repeat (first | (refine rest_vc ?_; conv => whnf) | (refine ⟨by decide, ?_⟩; conv => whnf))
  · have hlt : i < a.length := by have : (i : Int) < (a.length : Int) := of_decide_eq_true h1; omega
    refine awp_loop (n := 40) (α := Nat) (fun j => j ≤ 8 ∧ cmN a b (8 * i + j) = cmN a b 0) (fun j => [(0, .pure (.list 1 na (u8s a))), (1, .pure (.list 1 nb (u8s b))), (5, vI .i64 i), (6, vI .i64 (7 - (j : Int))), (8, vI .i64 (a.length : Nat)), (9, vI .i64 i)])
      (fun _ => []) (fun j => 8 - j) 0 (fun _ => 0) ⟨Nat.zero_le _, hc⟩ rfl ⟨rfl, rfl, rfl, rfl, rfl, rfl, trivial⟩ rfl (fun _ _ => rfl) (fun _ => ⟨Nat.le_refl _, rfl, rfl⟩) ?_
    rintro j ⟨hj, hcj⟩
    conv => whnf
    repeat (first | (refine rest_vc ?_; conv => whnf) | (refine ⟨by decide, ?_⟩; conv => whnf))
    split <;> rename_i h2 <;> (conv => whnf) <;> repeat (first | (refine rest_vc ?_; conv => whnf) | (refine ⟨by decide, ?_⟩; conv => whnf))
    · have hj8 : j < 8 := by have : (7 - (j : Int)) ≥ 0 := of_decide_eq_true h2; omega
      have e1 := bit_val' (ha.at i).1 (ha.at i).2 hj8
      have e2 := bit_val' (hb.at i).1 (hb.at i).2 hj8
      have hcm := cmN_at a b (8 * i + j)
      rw [bitAt_at a hj8, bitAt_at b hj8, ← e1, ← e2, decide_eq_true (show 8 * i + j < 8 * a.length by omega), Bool.true_and] at hcm
      refine hand_draw [] (fun _ _ => True) rfl (by kernel_rfl) rfl ?_
      conv => whnf
      repeat (first | (refine rest_vc ?_; conv => whnf) | (refine ⟨by decide, ?_⟩; conv => whnf))
      refine ⟨⟨by omega, by rw [hul]; omega⟩, fun q hq => ?_⟩
      obtain rfl := u8_get hlt hq
      conv => whnf
      repeat (first | (refine rest_vc ?_; conv => whnf) | (refine ⟨by decide, ?_⟩; conv => whnf))
      refine ⟨by omega, ?_⟩
      conv => whnf
      repeat (first | (refine rest_vc ?_; conv => whnf) | (refine ⟨by decide, ?_⟩; conv => whnf))
      refine ⟨⟨by omega, by rw [hul]; omega⟩, fun q hq => ?_⟩
      obtain rfl := u8_get (by omega) hq
      conv => whnf
      repeat (first | (refine rest_vc ?_; conv => whnf) | (refine ⟨by decide, ?_⟩; conv => whnf))
      refine ⟨by omega, ?_⟩
      conv => whnf
      repeat (first | (refine rest_vc ?_; conv => whnf) | (refine ⟨by decide, ?_⟩; conv => whnf))
      split <;> rename_i h3 <;> (conv => whnf) <;> repeat (first | (refine rest_vc ?_; conv => whnf) | (refine ⟨by decide, ?_⟩; conv => whnf))
      · have h3 : (!(iAnd .u8 (iShr .u8 (a.getD i 0) (7 - (j : Int))) 1 == iAnd .u8 (iShr .u8 (b.getD i 0) (7 - (j : Int))) 1)) = true := h3
        rw [if_neg (by intro e; rw [e] at h3; cases h3)] at hcm
        refine ⟨rfl, congrArg (vI .i64) ?_⟩
        rw [← hcj, hcm, w64 (n := 8 * (i : Int)) (by omega) (by omega), w64 (n := 8 * (i : Int) + 7) (by omega) (by omega), w64 (by omega) (by omega)]
        omega
      · have h3 : (!(iAnd .u8 (iShr .u8 (a.getD i 0) (7 - (j : Int))) 1 == iAnd .u8 (iShr .u8 (b.getD i 0) (7 - (j : Int))) 1)) = false := h3
        rw [if_pos (by simpa using h3)] at hcm
        refine ⟨j + 1, fun _ => 0, ⟨hj8, hcm.symm.trans hcj⟩, by omega, rfl, ⟨rfl, rfl, rfl, congrArg (vI .i64) (by rw [w64 (by omega) (by omega)]; omega), rfl, rfl, trivial⟩, rfl, fun _ _ => rfl⟩
    · have hj8 : j = 8 := by have : ¬ (7 - (j : Int)) ≥ 0 := of_decide_eq_false h2; omega
      subst hj8
      refine ⟨i + 1, fun _ => 0, ⟨hlt, by rw [← hcj]; rfl⟩, by omega, rfl, ⟨rfl, rfl, rfl, congrArg (vI .i64) (succ64 (by omega)), trivial⟩, rfl, fun _ _ => rfl⟩
  · have hge : i = a.length := by have : ¬ (i : Int) < (a.length : Int) := of_decide_eq_false h1; omega
    subst hge
    intro _
    conv => whnf
    repeat (first | (refine rest_vc ?_; conv => whnf) | (refine ⟨by decide, ?_⟩; conv => whnf))
    rw [cmN_at, decide_eq_false (Nat.lt_irrefl _)] at hc
    refine ⟨rfl, congrArg (vI .i64) ?_⟩
    rw [hul, w64 (by omega) (by omega), ← hc]
    simp

theorem rcommon_ok (na nb : Bool) (a b : List Int) (ha : Bts a) (hb : Bts b) (hl : b.length = a.length) (hlen : (a.length : Int) ≤ 1000000) :
    CallOk Tryz.prog 23 [.pure (.list 1 na (u8s a)), .pure (.list 1 nb (u8s b))] [] fun r st' => st' = [] ∧ r = vI .i64 (cmN a b 0 : Nat) := by
  have hul : ∀ l : List Int, (u8s l).length = l.length := fun l => u8s_len l
  refine callOk_of true 0 Tryz.func23 rfl rfl (Nat.le_refl _) ?_
  conv => whnf
  repeat (first | (refine rest_vc ?_; conv => whnf) | (refine ⟨by decide, ?_⟩; conv => whnf))
  refine awp_loop (n := 37) (α := Nat) (fun n => n ≤ 8 * a.length ∧ cmN a b n = cmN a b 0) (fun n => [(0, .pure (.list 1 na (u8s a))), (1, .pure (.list 1 nb (u8s b))), (5, vI .i64 n)])
    (fun _ => []) (fun n => 8 * a.length - n) 0 (fun _ => 0) ⟨Nat.zero_le _, rfl⟩ rfl ⟨rfl, rfl, rfl, trivial⟩ rfl (fun _ _ => rfl) (fun _ => ⟨Nat.le_refl _, rfl, rfl⟩) ?_
  rintro n ⟨hn, hc⟩
  have hcm := cmN_at a b n
  conv => whnf
  repeat (first | (refine rest_vc ?_; conv => whnf) | (refine ⟨by decide, ?_⟩; conv => whnf))
  refine hand_draw [] (fun _ _ => True) rfl (by kernel_rfl) rfl ?_
  conv => whnf
  repeat (first | (refine rest_vc ?_; conv => whnf) | (refine ⟨by decide, ?_⟩; conv => whnf))
  intro _
  conv => whnf
  repeat (first | (refine rest_vc ?_; conv => whnf) | (refine ⟨by decide, ?_⟩; conv => whnf))
  split <;> rename_i h1 <;> (conv => whnf) <;> repeat (first | (refine rest_vc ?_; conv => whnf) | (refine ⟨by decide, ?_⟩; conv => whnf))
  · have hw8 : IntKind.i64.wrap (8 * (((u8s a).length : Nat) : Int)) = ((8 * a.length : Nat) : Int) := by rw [hul, w64 (by omega) (by omega)]; omega
    have h1 : (n : Int) < IntKind.i64.wrap (8 * (((u8s a).length : Nat) : Int)) := of_decide_eq_true h1
    rw [hw8] at h1
    have hlt : n < 8 * a.length := by omega
    have e8 : IntKind.i64.wrap ((n : Int).tdiv 8) = ((n / 8 : Nat) : Int) := by rw [w64 (by rw [Int.tdiv_eq_ediv_of_nonneg (by omega)]; omega) (by rw [Int.tdiv_eq_ediv_of_nonneg (by omega)]; omega), Int.tdiv_eq_ediv_of_nonneg (by omega)]; omega
    have em : IntKind.i64.wrap (7 - (n : Int).tmod 8) = 7 - ((n % 8 : Nat) : Int) := by rw [Int.tmod_eq_emod_of_nonneg (by omega), w64 (by omega) (by omega)]; omega
    have hj8 : n % 8 < 8 := Nat.mod_lt _ (by omega)
    have hi8 : n / 8 < a.length := by omega
    have e1 := bit_val' (ha.at (n / 8)).1 (ha.at (n / 8)).2 hj8
    have e2 := bit_val' (hb.at (n / 8)).1 (hb.at (n / 8)).2 hj8
    have ea : bitAt a n = iAnd .u8 (iShr .u8 (a.getD (n / 8) 0) (7 - ((n % 8 : Nat) : Int))) 1 := e1.symm
    have eb : bitAt b n = iAnd .u8 (iShr .u8 (b.getD (n / 8) 0) (7 - ((n % 8 : Nat) : Int))) 1 := e2.symm
    rw [decide_eq_true hlt, Bool.true_and, ea, eb] at hcm
    rw [e8]
    refine ⟨⟨by omega, by rw [hul]; omega⟩, fun q hq => ?_⟩
    obtain rfl := u8_get hi8 hq
    conv => whnf
    repeat (first | (refine rest_vc ?_; conv => whnf) | (refine ⟨by decide, ?_⟩; conv => whnf))
    rw [em]
    refine ⟨by omega, ?_⟩
    conv => whnf
    repeat (first | (refine rest_vc ?_; conv => whnf) | (refine ⟨by decide, ?_⟩; conv => whnf))
    rw [e8]
    refine ⟨⟨by omega, by rw [hul]; omega⟩, fun q hq => ?_⟩
    obtain rfl := u8_get (by omega) hq
    conv => whnf
    repeat (first | (refine rest_vc ?_; conv => whnf) | (refine ⟨by decide, ?_⟩; conv => whnf))
    rw [em]
    refine ⟨by omega, ?_⟩
    conv => whnf
    repeat (first | (refine rest_vc ?_; conv => whnf) | (refine ⟨by decide, ?_⟩; conv => whnf))
    split <;> rename_i h3 <;> (conv => whnf) <;> repeat (first | (refine rest_vc ?_; conv => whnf) | (refine ⟨by decide, ?_⟩; conv => whnf))
    · rw [if_pos h3] at hcm
      exact ⟨n + 1, fun _ => 0, ⟨hlt, hcm.symm.trans hc⟩, by omega, rfl, ⟨rfl, rfl, congrArg (vI .i64) (succ64 (by omega)), trivial⟩, rfl, fun _ _ => rfl⟩
    · rw [if_neg (by rw [h3]; decide)] at hcm
      exact ⟨rfl, congrArg (fun n : Nat => vI .i64 n) (hcm.symm.trans hc)⟩
  · have hw8 : IntKind.i64.wrap (8 * (((u8s a).length : Nat) : Int)) = ((8 * a.length : Nat) : Int) := by rw [hul, w64 (by omega) (by omega)]; omega
    have h1 : ¬ (n : Int) < IntKind.i64.wrap (8 * (((u8s a).length : Nat) : Int)) := of_decide_eq_false h1
    rw [hw8] at h1
    rw [decide_eq_false (by omega), Bool.false_and, if_neg (by decide)] at hcm
    exact ⟨rfl, congrArg (fun n : Nat => vI .i64 n) (hcm.symm.trans hc)⟩
end Go.Proofs.YtjcbcjmnooploaaGreatDoor
/- law10: which name the nearest address has: both books. -/
set_option linter.all false
set_option maxHeartbeats 4000000
set_option maxRecDepth 100000
namespace Go.Proofs.YtjcbcjmnooploaaGreatDoor
open Go Go.RowKit Go.Sy Go.Proofs

def pfxStep (ad : List Int) (bits : Int) (s : ByteArray × Int) (x : List Int × ByteArray) : ByteArray × Int :=
  if x.1.length ≠ ad.length then s else if bits ≤ (cmN x.1 ad 0 : Nat) ∧ s.2 < (cmN x.1 ad 0 : Nat) then (x.2, (cmN x.1 ad 0 : Nat)) else s
def pfxR (ad : List Int) (bits : Int) (L : List (List Int × ByteArray)) : ByteArray × Bool × Int :=
  if bits < 0 ∨ 8 * (ad.length : Int) < bits then (noS, false, 1) else ((L.foldl (pfxStep ad bits) (noS, -1)).1, decide ((L.foldl (pfxStep ad bits) (noS, -1)).2 ≥ 0), 0)
abbrev pfxT (r : ByteArray × Bool × Int) : SV := .tup [vS r.1, vB r.2.1, vI .i64 r.2.2]
theorem bts_byS (a : ByteArray) : Bts (byS a) := by
  intro y hy
  obtain ⟨c, _, rfl⟩ := List.mem_map.1 hy
  have := c.toNat_lt
  omega
def listB (b : Bst) : List (List Int × ByteArray) := (srtS (b.names.map (·.1))).map fun a => (byS a, namAt b a)
theorem fold_succ {α β : Type} (f : β → α → β) (z : β) {l : List α} {i : Nat} {x : α} (h : l[i]? = some x) : (l.take (i + 1)).foldl f z = f ((l.take i).foldl f z) x := by
  rw [List.take_add_one, h]
  simp
theorem Prefix_ok (b : Bst) (nl : Bool) (ad : List Int) (bits : Int) (had : Bts ad) (hal : (ad.length : Int) ≤ 1000000) (hl : (b.names.length : Int) ≤ 1000) (hsz : ∀ e ∈ b.names, e.1.size ≤ 1000000) (hnd : (b.names.map (·.1)).Nodup) :
    CallOk Tryz.prog 9 [.ptr 0 0, .pure (.list 1 nl (u8s ad)), vI .i64 bits] (bs b) fun r' st' => r' = pfxT (pfxR ad bits (listB b)) ∧ st' = bs b := by
  have hul : (u8s ad).length = ad.length := u8s_len ad
  refine callOkD_of false 7 Tryz.func9 rfl rfl (Nat.le_refl _) ?_
  refine handD_region ?_
  conv => whnf
  refine handD_region ?_
  conv => whnf
  refine CallIn.o [0, 1, 2, 3, 4, 5, 6] (enter_ok b.k) (k := ?_)
  rintro r st' ⟨rfl, rfl⟩
  conv => whnf
  refine handD_defer (pre := [_]) rfl rfl rfl rfl rfl rfl rfl ?_
  conv => whnf
  repeat (first | (refine rest_vc ?_; conv => whnf) | (refine ⟨by decide, ?_⟩; conv => whnf))
  refine ⟨_, rfl, rfl, ?_⟩
  refine rest_vc ?_
  conv => whnf
  repeat (first | (refine rest_vc ?_; conv => whnf) | (refine ⟨by decide, ?_⟩; conv => whnf))
  have hw8 : IntKind.i64.wrap (8 * (((u8s ad).length : Nat) : Int)) = 8 * (ad.length : Int) := by rw [hul, w64 (by omega) (by omega)]
  split <;> rename_i h0 <;> (conv => whnf) <;> repeat (first | (refine rest_vc ?_; conv => whnf) | (refine ⟨by decide, ?_⟩; conv => whnf))
  · have h0 : bits < 0 := of_decide_eq_true h0
    refine unlockD (P' := b.k) rfl ?_
    conv => whnf
    repeat (first | (refine rest_vc ?_; conv => whnf) | (refine ⟨by decide, ?_⟩; conv => whnf))
    exact ⟨by unfold pfxR; rw [if_pos (.inl h0)]; rfl, rfl⟩
  · have h0 : ¬ bits < 0 := of_decide_eq_false h0
    intro _
    conv => whnf
    repeat (first | (refine rest_vc ?_; conv => whnf) | (refine ⟨by decide, ?_⟩; conv => whnf))
    split <;> rename_i h1 <;> (conv => whnf) <;> repeat (first | (refine rest_vc ?_; conv => whnf) | (refine ⟨by decide, ?_⟩; conv => whnf))
    · have h1 : bits > IntKind.i64.wrap (8 * (((u8s ad).length : Nat) : Int)) := of_decide_eq_true h1
      rw [hw8] at h1
      refine unlockD (P' := b.k) rfl ?_
      conv => whnf
      repeat (first | (refine rest_vc ?_; conv => whnf) | (refine ⟨by decide, ?_⟩; conv => whnf))
      exact ⟨by unfold pfxR; rw [if_pos (.inr h1)]; rfl, rfl⟩
    · have h1 : ¬ bits > IntKind.i64.wrap (8 * (((u8s ad).length : Nat) : Int)) := of_decide_eq_false h1
      rw [hw8] at h1
      have hres : pfxR ad bits (listB b) = (((listB b).foldl (pfxStep ad bits) (noS, -1)).1, decide (((listB b).foldl (pfxStep ad bits) (noS, -1)).2 ≥ 0), 0) := by unfold pfxR; rw [if_neg (by omega)]
      rw [hres]
      clear hres
      refine CallIn.o [6] (keysA_ok (enN b.names)) (k := ?_)
      rintro r st' ⟨rfl, rfl⟩
      conv => whnf
      repeat (first | (refine rest_vc ?_; conv => whnf) | (refine ⟨by decide, ?_⟩; conv => whnf))
      refine CallIn.o [6, 7] (sortedA_ok 65 b.names (by omega) (fun e he => Nat.le_trans (hsz e he) (by unfold maxLen; omega)) hnd) (k := ?_)
      rintro r st' ⟨rfl, rfl⟩
      conv => whnf
      repeat (first | (refine rest_vc ?_; conv => whnf) | (refine ⟨by decide, ?_⟩; conv => whnf))
      have hkl : (srtS (b.names.map (·.1))).length = b.names.length := by rw [(srtS_perm _).length_eq, List.length_map]
      have hLk : listB b = (srtS (b.names.map (·.1))).map fun a => (byS a, namAt b a) := rfl
      generalize hks : srtS (b.names.map (·.1)) = ks at hkl hLk ⊢
      have hpl : (ks.map pvB).length = ks.length := List.length_map ..
      generalize listB b = L at hLk ⊢
      have hLl : L.length = ks.length := by rw [hLk, List.length_map]
      intro _
      conv => whnf
      repeat (first | (refine rest_vc ?_; conv => whnf) | (refine ⟨by decide, ?_⟩; conv => whnf))
      refine awp_loop (n := 75) (α := Nat) (fun i => i ≤ ks.length) (fun i => [(0, .ptr 0 0), (1, .pure (.list 1 nl (u8s ad))), (2, vI .i64 bits), (11, vS ((L.take i).foldl (pfxStep ad bits) (noS, -1)).1), (12, vI .i64 ((L.take i).foldl (pfxStep ad bits) (noS, -1)).2), (40, .pure (.list 1 b.names.isEmpty (ks.map pvB))), (41, vI .i64 (ks.length : Nat)), (42, vI .i64 i)])
        (fun i => bk 1 b.k ++ [.cells 65 [.mref 6]]) (fun i => ks.length - i) 0 (fun _ => 0)
        (Nat.zero_le _) rfl ⟨rfl, rfl, rfl, rfl, rfl, rfl, congrArg (vI .i64) (by rw [hpl]), rfl, trivial⟩ rfl (fun _ _ => rfl) (fun _ => ⟨(by show 7 ≤ 8; omega), rfl, rfl⟩) ?_
      rintro i hi
      conv => whnf
      repeat (first | (refine rest_vc ?_; conv => whnf) | (refine ⟨by decide, ?_⟩; conv => whnf))
      split <;> rename_i h2 <;> (conv => whnf) <;> repeat (first | (refine rest_vc ?_; conv => whnf) | (refine ⟨by decide, ?_⟩; conv => whnf))
      · have hlt : i < ks.length := by have : (i : Int) < (ks.length : Int) := of_decide_eq_true h2; omega
        have hq : ks[i]? = some ks[i] := List.getElem?_eq_getElem hlt
        obtain ⟨y, hy⟩ : ∃ y, y = ks[i] := ⟨_, rfl⟩
        rw [← hy] at hq
        have hLq : L[i]? = some (byS y, namAt b y) := by rw [hLk, List.getElem?_map, hq]; rfl
        have hf := fold_succ (pfxStep ad bits) (noS, -1) hLq
        have hyz : (y.size : Int) ≤ 1000000 := by
          have hm : y ∈ b.names.map (·.1) := by
            refine (srtS_perm _).mem_iff.1 ?_
            rw [hks]
            exact List.mem_of_getElem? hq
          obtain ⟨e, he, rfl⟩ := List.mem_map.1 hm
          have := hsz e he
          omega
        obtain ⟨s, hs⟩ : ∃ s, s = (L.take i).foldl (pfxStep ad bits) (noS, -1) := ⟨_, rfl⟩
        rw [← hs] at hf ⊢
        obtain ⟨so, sm⟩ := s
        refine ⟨⟨by omega, by omega⟩, fun q hq' => ?_⟩
        obtain rfl : pvB y = q := by
          rw [Int.toNat_natCast, List.getElem?_map, hq] at hq'
          exact Option.some.inj hq'
        conv => whnf
        repeat (first | (refine rest_vc ?_; conv => whnf) | (refine ⟨by decide, ?_⟩; conv => whnf))
        intro _
        conv => whnf
        repeat (first | (refine rest_vc ?_; conv => whnf) | (refine ⟨by decide, ?_⟩; conv => whnf))
        have again : pfxStep ad bits (so, sm) (byS y, namAt b y) = (so, sm) → ∃ f, (f = fun _ : Nat => 0) ∧ (L.take (i + 1)).foldl (pfxStep ad bits) (noS, -1) = (so, sm) := fun e => ⟨_, rfl, hf.trans e⟩
        split <;> rename_i h3 <;> (conv => whnf) <;> repeat (first | (refine rest_vc ?_; conv => whnf) | (refine ⟨by decide, ?_⟩; conv => whnf))
        · have h3 : (!((y.size : Int) == (((u8s ad).length : Nat) : Int))) = true := h3
          obtain ⟨f, rfl, hn⟩ := again (by unfold pfxStep; rw [if_pos (by rw [byS_len]; intro e; rw [e, hul] at h3; simp at h3)])
          refine ⟨i + 1, _, hlt, by omega, rfl, ⟨rfl, rfl, rfl, congrArg vS (by rw [hn]), congrArg (vI .i64) (by rw [hn]), rfl, rfl, congrArg (vI .i64) (succ64 (by omega)), trivial⟩, rfl, fun _ _ => rfl⟩
        · have h3 : (!((y.size : Int) == (((u8s ad).length : Nat) : Int))) = false := h3
          have hyl : (byS y).length = ad.length := by
            rw [byS_len]
            have : ((y.size : Int) == (((u8s ad).length : Nat) : Int)) = true := by simpa using h3
            have := beq_iff_eq.1 this
            rw [hul] at this
            omega
          refine ⟨by omega, ?_⟩
          conv => whnf
          repeat (first | (refine rest_vc ?_; conv => whnf) | (refine ⟨by decide, ?_⟩; conv => whnf))
          refine CallIn.to (common_ok false nl (byS y) ad (bts_byS y) had hyl.symm (by rw [byS_len]; exact hyz)) (ha := by exact congrArg (fun z => [SV.pure (.list 1 false z), .pure (.list 1 nl (u8s ad))]) (u8s_byS y).symm) (hf := by first | exact .inr rfl | exact .inl (Eq.symm (by exact congrArg (fun z => [SV.pure (.list 1 false z), .pure (.list 1 nl (u8s ad))]) (u8s_byS y).symm))) (k := ?_)
          conv => whnf
          repeat (first | (refine rest_vc ?_; conv => whnf) | (refine ⟨by decide, ?_⟩; conv => whnf))
          have stay : ¬ (bits ≤ (cmN (byS y) ad 0 : Nat) ∧ sm < (cmN (byS y) ad 0 : Nat)) → pfxStep ad bits (so, sm) (byS y, namAt b y) = (so, sm) := fun e => by unfold pfxStep; rw [if_neg (by simpa using hyl), if_neg e]
          have go : (bits ≤ (cmN (byS y) ad 0 : Nat) ∧ sm < (cmN (byS y) ad 0 : Nat)) → pfxStep ad bits (so, sm) (byS y, namAt b y) = (namAt b y, ((cmN (byS y) ad 0 : Nat) : Int)) := fun e => by unfold pfxStep; rw [if_neg (by simpa using hyl), if_pos e]
          generalize cmN (byS y) ad 0 = c at stay go ⊢
          split <;> rename_i h4 <;> (conv => whnf) <;> repeat (first | (refine rest_vc ?_; conv => whnf) | (refine ⟨by decide, ?_⟩; conv => whnf))
          · have h4 : (c : Int) ≥ bits := of_decide_eq_true h4
            split <;> rename_i h5 <;> (conv => whnf) <;> repeat (first | (refine rest_vc ?_; conv => whnf) | (refine ⟨by decide, ?_⟩; conv => whnf))
            · have h5 : (c : Int) > sm := of_decide_eq_true h5
              refine must_iff.2 ⟨some_str y, ?_⟩
              conv => whnf
              repeat (first | (refine rest_vc ?_; conv => whnf) | (refine ⟨by decide, ?_⟩; conv => whnf))
              refine ⟨_, find_nam y b.names, ?_⟩
              have hv : ∀ z, z = Value.string noS → lkRes z false ((lkI eqBA y b.names 0).map fun x => (x.1, pvB x.2)) = .pure (pvB (namAt b y)) := fun z hz => by
                subst hz
                unfold namAt
                cases lkI eqBA y b.names 0 <;> rfl
              refine Eq.mpr (congrArg _ (hv (Value.string noS) rfl)) ?_
              conv => whnf
              repeat (first | (refine rest_vc ?_; conv => whnf) | (refine ⟨by decide, ?_⟩; conv => whnf))
              have hn := hf.trans (go ⟨h4, h5⟩)
              refine ⟨i + 1, fun _ => 0, hlt, by omega, rfl, ⟨rfl, rfl, rfl, congrArg vS (by rw [hn]), congrArg (vI .i64) (by rw [hn]), rfl, rfl, congrArg (vI .i64) (succ64 (by omega)), trivial⟩, rfl, fun _ _ => rfl⟩
            · have h5 : ¬ (c : Int) > sm := of_decide_eq_false h5
              obtain ⟨f, rfl, hn⟩ := again (stay (by omega))
              refine ⟨i + 1, _, hlt, by omega, rfl, ⟨rfl, rfl, rfl, congrArg vS (by rw [hn]), congrArg (vI .i64) (by rw [hn]), rfl, rfl, congrArg (vI .i64) (succ64 (by omega)), trivial⟩, rfl, fun _ _ => rfl⟩
          · have h4 : ¬ (c : Int) ≥ bits := of_decide_eq_false h4
            obtain ⟨f, rfl, hn⟩ := again (stay (by omega))
            refine ⟨i + 1, _, hlt, by omega, rfl, ⟨rfl, rfl, rfl, congrArg vS (by rw [hn]), congrArg (vI .i64) (by rw [hn]), rfl, rfl, congrArg (vI .i64) (succ64 (by omega)), trivial⟩, rfl, fun _ _ => rfl⟩
      · have hil : i = ks.length := by have : ¬ (i : Int) < (ks.length : Int) := of_decide_eq_false h2; omega
        subst hil
        rw [← hLl, List.take_length]
        split <;> rename_i h7 <;> (conv => whnf) <;> repeat (first | (refine rest_vc ?_; conv => whnf) | (refine ⟨by decide, ?_⟩; conv => whnf))
        · refine unlockD (P' := b.k) rfl ?_
          conv => whnf
          repeat (first | (refine rest_vc ?_; conv => whnf) | (refine ⟨by decide, ?_⟩; conv => whnf))
          exact ⟨congrArg (fun c => pfxT ((L.foldl (pfxStep ad bits) (noS, -1)).1, c, 0)) h7.symm, rfl⟩
        · refine unlockD (P' := b.k) rfl ?_
          conv => whnf
          repeat (first | (refine rest_vc ?_; conv => whnf) | (refine ⟨by decide, ?_⟩; conv => whnf))
          exact ⟨congrArg (fun c => pfxT ((L.foldl (pfxStep ad bits) (noS, -1)).1, c, 0)) h7.symm, rfl⟩

theorem cmF_comm (a b : List Int) (h : b.length = a.length) : ∀ f n, cmF a b f n = cmF b a f n
  | 0, n => rfl
  | f + 1, n => by
    rw [cmF, cmF, cmF_comm a b h f (n + 1), h]
    have : (bitAt a n == bitAt b n) = (bitAt b n == bitAt a n) := by
      by_cases e : bitAt a n = bitAt b n
      · rw [e]
      · rw [beq_eq_false_iff_ne.2 e, beq_eq_false_iff_ne.2 (Ne.symm e)]
    rw [this]
theorem cmN_comm (a b : List Int) (h : b.length = a.length) : cmN a b 0 = cmN b a 0 := by
  unfold cmN
  rw [cmF_comm a b h, h]
def rlistB (r : Rst) : List (List Int × ByteArray) := r.names.map fun n => (n.a, n.x)
theorem rPrefix_ok (r : Rst) (nl : Bool) (ad : List Int) (bits : Int) (had : Bts ad) (hal : (ad.length : Int) ≤ 1000000) (hr : (r.names.length : Int) ≤ 1000) (hb : ∀ n ∈ r.names, Bts n.a) (ha : ∀ n ∈ r.names, (n.a.length : Int) ≤ 1000000) :
    CallOk Tryz.prog 10 [.ptr 0 0, .pure (.list 1 nl (u8s ad)), vI .i64 bits] (rs r) fun r' st' => r' = pfxT (pfxR ad bits (rlistB r)) ∧ st' = rs r := by
  have hul : ∀ l : List Int, (u8s l).length = l.length := fun l => u8s_len l
  have hrl : (r.names.map pvN).length = r.names.length := List.length_map ..
  have hw8 : IntKind.i64.wrap (8 * (((u8s ad).length : Nat) : Int)) = 8 * (ad.length : Int) := by rw [hul, w64 (by omega) (by omega)]
  refine callOk_of false 1 Tryz.func10 rfl rfl (Nat.le_refl _) ?_
  conv => whnf
  repeat (first | (refine rest_vc ?_; conv => whnf) | (refine ⟨by decide, ?_⟩; conv => whnf))
  split <;> rename_i h0 <;> (conv => whnf) <;> repeat (first | (refine rest_vc ?_; conv => whnf) | (refine ⟨by decide, ?_⟩; conv => whnf))
  · have h0 : bits < 0 := of_decide_eq_true h0
    exact ⟨by unfold pfxR; rw [if_pos (.inl h0)]; rfl, rfl⟩
  · have h0 : ¬ bits < 0 := of_decide_eq_false h0
    intro _
    conv => whnf
    repeat (first | (refine rest_vc ?_; conv => whnf) | (refine ⟨by decide, ?_⟩; conv => whnf))
    split <;> rename_i h1 <;> (conv => whnf) <;> repeat (first | (refine rest_vc ?_; conv => whnf) | (refine ⟨by decide, ?_⟩; conv => whnf))
    · have h1 : bits > IntKind.i64.wrap (8 * (((u8s ad).length : Nat) : Int)) := of_decide_eq_true h1
      rw [hw8] at h1
      exact ⟨by unfold pfxR; rw [if_pos (.inr h1)]; rfl, rfl⟩
    · have h1 : ¬ bits > IntKind.i64.wrap (8 * (((u8s ad).length : Nat) : Int)) := of_decide_eq_false h1
      rw [hw8] at h1
      have hres : pfxR ad bits (rlistB r) = (((rlistB r).foldl (pfxStep ad bits) (noS, -1)).1, decide (((rlistB r).foldl (pfxStep ad bits) (noS, -1)).2 ≥ 0), 0) := by unfold pfxR; rw [if_neg (by omega)]
      rw [hres]
      clear hres
      have hLk : rlistB r = r.names.map fun n => (n.a, n.x) := rfl
      generalize rlistB r = L at hLk ⊢
      have hLl : L.length = r.names.length := by rw [hLk, List.length_map]
      refine awp_loop (n := 73) (α := Nat) (fun i => i ≤ r.names.length) (fun i => [(0, .ptr 0 0), (1, .pure (.list 1 nl (u8s ad))), (2, vI .i64 bits), (9, vI .i64 ((L.take i).foldl (pfxStep ad bits) (noS, -1)).2), (10, vS ((L.take i).foldl (pfxStep ad bits) (noS, -1)).1), (11, vI .i64 i)])
        (fun i => rs r) (fun i => r.names.length - i) 0 (fun _ => 0)
        (Nat.zero_le _) rfl ⟨rfl, rfl, rfl, rfl, rfl, rfl, trivial⟩ rfl (fun _ _ => rfl) (fun _ => ⟨Nat.le_refl _, rfl, rfl⟩) ?_
      rintro i hi
      conv => whnf
      repeat (first | (refine rest_vc ?_; conv => whnf) | (refine ⟨by decide, ?_⟩; conv => whnf))
      intro _
      conv => whnf
      repeat (first | (refine rest_vc ?_; conv => whnf) | (refine ⟨by decide, ?_⟩; conv => whnf))
      split <;> rename_i h2 <;> (conv => whnf) <;> repeat (first | (refine rest_vc ?_; conv => whnf) | (refine ⟨by decide, ?_⟩; conv => whnf))
      · have hlt : i < r.names.length := by have : (i : Int) < ((r.names.map pvN).length : Int) := of_decide_eq_true h2; omega
        have hq : r.names[i]? = some r.names[i] := List.getElem?_eq_getElem hlt
        obtain ⟨y, hy⟩ : ∃ y, y = r.names[i] := ⟨_, rfl⟩
        rw [← hy] at hq
        have hld : ∀ q, (r.names.map pvN)[(i : Int).toNat]? = some q → pvN y = q := fun q hq' => by
          rw [Int.toNat_natCast, List.getElem?_map, hq] at hq'
          exact Option.some.inj hq'
        have bd : 0 ≤ (i : Int) ∧ (i : Int) < ((r.names.map pvN).length : Int) := ⟨by omega, by omega⟩
        have hLq : L[i]? = some (y.a, y.x) := by rw [hLk, List.getElem?_map, hq]; rfl
        have hf := fold_succ (pfxStep ad bits) (noS, -1) hLq
        have hya := ha y (List.mem_of_getElem? hq)
        have hyb := hb y (List.mem_of_getElem? hq)
        obtain ⟨s, hs⟩ : ∃ s, s = (L.take i).foldl (pfxStep ad bits) (noS, -1) := ⟨_, rfl⟩
        rw [← hs] at hf ⊢
        obtain ⟨so, sm⟩ := s
        refine ⟨bd, fun q hq' => ?_⟩
        obtain rfl := hld q hq'
        conv => whnf
        repeat (first | (refine rest_vc ?_; conv => whnf) | (refine ⟨by decide, ?_⟩; conv => whnf))
        intro _
        conv => whnf
        repeat (first | (refine rest_vc ?_; conv => whnf) | (refine ⟨by decide, ?_⟩; conv => whnf))
        intro _
        conv => whnf
        repeat (first | (refine rest_vc ?_; conv => whnf) | (refine ⟨by decide, ?_⟩; conv => whnf))
        have again : pfxStep ad bits (so, sm) (y.a, y.x) = (so, sm) → ∃ f, (f = fun _ : Nat => 0) ∧ (L.take (i + 1)).foldl (pfxStep ad bits) (noS, -1) = (so, sm) := fun e => ⟨_, rfl, hf.trans e⟩
        split <;> rename_i h3 <;> (conv => whnf) <;> repeat (first | (refine rest_vc ?_; conv => whnf) | (refine ⟨by decide, ?_⟩; conv => whnf))
        · have h3 : (!((((u8s y.a).length : Nat) : Int) == (((u8s ad).length : Nat) : Int))) = true := h3
          obtain ⟨f, rfl, hn⟩ := again (by unfold pfxStep; rw [if_pos (by intro e; rw [hul, hul] at h3; simp at e; rw [e] at h3; simp at h3)])
          refine ⟨i + 1, _, hlt, by omega, rfl, ⟨rfl, rfl, rfl, congrArg (vI .i64) (by rw [hn]), congrArg vS (by rw [hn]), congrArg (vI .i64) (succ64 (by omega)), trivial⟩, rfl, fun _ _ => rfl⟩
        · have h3 : (!((((u8s y.a).length : Nat) : Int) == (((u8s ad).length : Nat) : Int))) = false := h3
          have hyl : y.a.length = ad.length := by
            have : ((((u8s y.a).length : Nat) : Int) == (((u8s ad).length : Nat) : Int)) = true := by simpa using h3
            have := beq_iff_eq.1 this
            rw [hul, hul] at this
            omega
          refine ⟨bd, fun q hq' => ?_⟩
          obtain rfl := hld q hq'
          conv => whnf
          repeat (first | (refine rest_vc ?_; conv => whnf) | (refine ⟨by decide, ?_⟩; conv => whnf))
          refine CallIn.to (rcommon_ok nl y.nl ad y.a had hyb hyl hal) (k := ?_)
          conv => whnf
          repeat (first | (refine rest_vc ?_; conv => whnf) | (refine ⟨by decide, ?_⟩; conv => whnf))
          have stay : ¬ (bits ≤ (cmN ad y.a 0 : Nat) ∧ sm < (cmN ad y.a 0 : Nat)) → pfxStep ad bits (so, sm) (y.a, y.x) = (so, sm) := fun e => by unfold pfxStep; rw [if_neg (by simpa using hyl), cmN_comm y.a ad hyl.symm, if_neg e]
          have go : (bits ≤ (cmN ad y.a 0 : Nat) ∧ sm < (cmN ad y.a 0 : Nat)) → pfxStep ad bits (so, sm) (y.a, y.x) = (y.x, ((cmN ad y.a 0 : Nat) : Int)) := fun e => by unfold pfxStep; rw [if_neg (by simpa using hyl), cmN_comm y.a ad hyl.symm, if_pos e]
          generalize cmN ad y.a 0 = c at stay go ⊢
          split <;> rename_i h4 <;> (conv => whnf) <;> repeat (first | (refine rest_vc ?_; conv => whnf) | (refine ⟨by decide, ?_⟩; conv => whnf))
          · have h4 : (c : Int) ≥ bits := of_decide_eq_true h4
            split <;> rename_i h5 <;> (conv => whnf) <;> repeat (refine ⟨by decide, ?_⟩; conv => whnf)
            · have h5 : (c : Int) > sm := of_decide_eq_true h5
              refine rest_norm 73 (fun _ => 0) [(0, .ptr 0 0), (1, .pure (.list 1 nl (u8s ad))), (2, vI .i64 bits), (11, vI .i64 i), (12, vI .i64 c), (60, vB true)] (rs r) rfl ⟨rfl, rfl, rfl, rfl, rfl, rfl, trivial⟩ rfl ⟨Nat.le_refl _, rfl, rfl⟩ (fun _ _ => rfl) ?_
              refine rest_vc ?_
              conv => whnf
              repeat (first | (refine rest_vc ?_; conv => whnf) | (refine ⟨by decide, ?_⟩; conv => whnf))
              refine hand_draw [] (fun _ _ => True) rfl (by kernel_rfl) rfl ?_
              conv => whnf
              repeat (first | (refine rest_vc ?_; conv => whnf) | (refine ⟨by decide, ?_⟩; conv => whnf))
              refine ⟨bd, fun q hq' => ?_⟩
              obtain rfl := hld q hq'
              conv => whnf
              repeat (first | (refine rest_vc ?_; conv => whnf) | (refine ⟨by decide, ?_⟩; conv => whnf))
              have hn := hf.trans (go ⟨h4, h5⟩)
              refine ⟨i + 1, fun _ => 0, hlt, by omega, rfl, ⟨rfl, rfl, rfl, congrArg (vI .i64) (by rw [hn]), congrArg vS (by rw [hn]), congrArg (vI .i64) (succ64 (by omega)), trivial⟩, rfl, fun _ _ => rfl⟩
            · have h5 : ¬ (c : Int) > sm := of_decide_eq_false h5
              obtain ⟨f, rfl, hn⟩ := again (stay (by omega))
              refine rest_vc ?_
              conv => whnf
              repeat (first | (refine rest_vc ?_; conv => whnf) | (refine ⟨by decide, ?_⟩; conv => whnf))
              refine ⟨i + 1, _, hlt, by omega, rfl, ⟨rfl, rfl, rfl, congrArg (vI .i64) (by rw [hn]), congrArg vS (by rw [hn]), congrArg (vI .i64) (succ64 (by omega)), trivial⟩, rfl, fun _ _ => rfl⟩
          · have h4 : ¬ (c : Int) ≥ bits := of_decide_eq_false h4
            obtain ⟨f, rfl, hn⟩ := again (stay (by omega))
            refine ⟨i + 1, _, hlt, by omega, rfl, ⟨rfl, rfl, rfl, congrArg (vI .i64) (by rw [hn]), congrArg vS (by rw [hn]), congrArg (vI .i64) (succ64 (by omega)), trivial⟩, rfl, fun _ _ => rfl⟩
      · have hil : i = r.names.length := by have : ¬ (i : Int) < ((r.names.map pvN).length : Int) := of_decide_eq_false h2; omega
        subst hil
        rw [← hLl, List.take_length]
        split <;> rename_i h7 <;> (conv => whnf) <;> repeat (first | (refine rest_vc ?_; conv => whnf) | (refine ⟨by decide, ?_⟩; conv => whnf))
        · exact ⟨congrArg (fun c => pfxT ((L.foldl (pfxStep ad bits) (noS, -1)).1, c, 0)) h7.symm, rfl⟩
        · exact ⟨congrArg (fun c => pfxT ((L.foldl (pfxStep ad bits) (noS, -1)).1, c, 0)) h7.symm, rfl⟩
end Go.Proofs.YtjcbcjmnooploaaGreatDoor
/- law10: names told: the law's walk. -/
set_option linter.all false
set_option maxHeartbeats 4000000
set_option maxRecDepth 100000
namespace Go.Proofs.YtjcbcjmnooploaaGreatDoor
open Go Go.RowKit Go.Sy Go.Proofs

theorem strOf_byS (a : ByteArray) : strOfNums (byS a) = a := by
  unfold strOfNums byS
  rw [List.map_map]
  cases a with
  | mk d =>
    congr
    have : (d.toList.map ((fun n : Int => UInt8.ofNat n.toNat) ∘ fun c : UInt8 => (c.toNat : Int))) = d.toList := by
      conv => rhs; rw [← List.map_id d.toList]
      refine List.map_congr_left fun c _ => ?_
      simp
    simp [this]
theorem not_self {α : Type} [BEq α] [ReflBEq α] (a : α) : ¬ (!(a == a)) = true := by simp
abbrev scP (x : Scr) : List PV := [.list 3 x.rn (x.rows.map pvR), .list 2 x.nn (x.names.map pvN), .list 6 x.an (x.acts.map pvA)]
def lT (b : Bst) (r : Rst) : List Ob := [.gone, .gone, .gone, .map b.k.asked, .map b.k.rules, .map b.k.off, .map b.k.names,
  .cells 69 [vI .i32 0, vI .u32 0, .vref 9 b.k.vr, .mref 3, .mref 4, .vref 10 b.k.vp, .mref 5, .mref 6], .cells 73 (rbC r), .vec b.k.vr 45 3 b.k.nr b.k.rows, .vec b.k.vp 99 5 b.k.np b.k.prefs]

/-- What the walk asks of both books. -/
structure Tl (b : Bst) (r : Rst) : Prop where
  told : ∀ k, toldB b k = rtoldB r k
  pfx : ∀ ad bits, Bts ad → pfxR ad bits (listB b) = pfxR ad bits (rlistB r)
  find : ∀ x, findB b x = (rfindB r x).map keyN
  rl : (r.names.length : Int) ≤ 1000
  bl : (b.names.length : Int) ≤ 1000
  bz : ∀ e ∈ b.names, e.1.size ≤ 1000000
  bn : (b.names.map (·.1)).Nodup
  rb : ∀ n ∈ r.names, Bts n.a
  ra : ∀ n ∈ r.names, (n.a.length : Int) ≤ 1000000

theorem NamesTold_ok (h39 : IsW 48) (h43 : IsW 53) (hso : SortS 56) (x : Scr) (hx : Good x) (nl : Bool) (ad : List Int) (n : Int) (had : Bts ad)
    (hp : Tl (runI x x.acts.length).1 (runI x x.acts.length).2) :
    CallOk Tryz.prog 3 [.pure (pvX x), .pure (.list 1 nl (u8s ad)), vI .i64 n] [] fun r st' => st' = [] ∧ r = vB true := by
  have hk := known_ok h39
  have hb := begun_ok h39 h43 hso x hx
  generalize hrun : runI x x.acts.length = B at hb hp
  obtain ⟨b, r⟩ := B
  simp only at hb hp
  have hnl := hx.names
  have hul : (u8s ad).length = ad.length := u8s_len ad
  refine callOk_of true 0 Tryz.func3 rfl rfl (Nat.zero_le _) ?_
  conv => whnf
  repeat (refine ⟨by decide, ?_⟩; conv => whnf)
  refine rest_frc 0 rfl rfl ?_
  refine rest_vc ?_
  conv => whnf
  repeat (first | (refine rest_vc ?_; conv => whnf) | (refine ⟨by decide, ?_⟩; conv => whnf))
  refine CallIn.top (over_ok x hx.rows hx.names hx.acts) (k := ?_)
  rintro r' ⟨o, rfl⟩
  cases o with
  | true =>
    conv => whnf
    repeat (first | (refine rest_vc ?_; conv => whnf) | (refine ⟨by decide, ?_⟩; conv => whnf))
    refine CallIn.to (hk) (k := ?_)
    conv => whnf
    repeat (first | (refine rest_vc ?_; conv => whnf) | (refine ⟨by decide, ?_⟩; conv => whnf))
    exact ⟨rfl, rfl⟩
  | false =>
    conv => whnf
    repeat (first | (refine rest_vc ?_; conv => whnf) | (refine ⟨by decide, ?_⟩; conv => whnf))
    intro _
    conv => whnf
    repeat (first | (refine rest_vc ?_; conv => whnf) | (refine ⟨by decide, ?_⟩; conv => whnf))
    split <;> rename_i g1 <;> (conv => whnf) <;> repeat (first | (refine rest_vc ?_; conv => whnf) | (refine ⟨by decide, ?_⟩; conv => whnf))
    · refine CallIn.to (hk) (k := ?_)
      conv => whnf
      repeat (first | (refine rest_vc ?_; conv => whnf) | (refine ⟨by decide, ?_⟩; conv => whnf))
      exact ⟨rfl, rfl⟩
    · have g1 : ¬ (((u8s ad).length : Nat) : Int) > 32768 := of_decide_eq_false g1
      rw [hul] at g1
      refine CallIn.oe [] hb (.tup [.ptr 7 0, .ptr 8 0, vB true]) (lT b r) rfl rfl ?_
      conv => whnf
      repeat (first | (refine rest_vc ?_; conv => whnf) | (refine ⟨by decide, ?_⟩; conv => whnf))
      have c1 := Told_ok b nl ad
      have c2 := rTold_ok r nl ad hp.rl
      rw [← hp.told] at c2
      have c3 := Prefix_ok b nl ad n had (by omega) hp.bl hp.bz hp.bn
      have c4 := rPrefix_ok r nl ad n had (by omega) hp.rl hp.rb hp.ra
      rw [← hp.pfx ad n had] at c4
      generalize toldB b (strOfNums ad) = V at c1 c2
      generalize pfxR ad n (listB b) = U at c3 c4
      obtain ⟨v1, v2⟩ := V
      obtain ⟨u1, u2, u3⟩ := U
      refine CallIn.oe [7, 9, 3, 4, 10, 5, 6] c1 (.tup [vS v1, vB v2]) (lT b r) rfl rfl ?_
      conv => whnf
      repeat (first | (refine rest_vc ?_; conv => whnf) | (refine ⟨by decide, ?_⟩; conv => whnf))
      refine CallIn.oe [8] c2 (.tup [vS v1, vB v2]) (lT b r) rfl rfl ?_
      conv => whnf
      repeat (first | (refine rest_vc ?_; conv => whnf) | (refine ⟨by decide, ?_⟩; conv => whnf))
      refine CallIn.oe [7, 9, 3, 4, 10, 5, 6] c3 (.tup [vS u1, vB u2, vI .i64 u3]) (lT b r) rfl rfl ?_
      conv => whnf
      repeat (first | (refine rest_vc ?_; conv => whnf) | (refine ⟨by decide, ?_⟩; conv => whnf))
      refine CallIn.oe [8] c4 (.tup [vS u1, vB u2, vI .i64 u3]) (lT b r) rfl rfl ?_
      conv => whnf
      repeat (first | (refine rest_vc ?_; conv => whnf) | (refine ⟨by decide, ?_⟩; conv => whnf))
      split <;> rename_i g2 <;> (conv => whnf) <;> repeat (first | (refine rest_vc ?_; conv => whnf) | (refine ⟨by decide, ?_⟩; conv => whnf))
      · exact absurd g2 (not_self v1.toList)
      split <;> rename_i g3 <;> (conv => whnf) <;> repeat (first | (refine rest_vc ?_; conv => whnf) | (refine ⟨by decide, ?_⟩; conv => whnf))
      · exact absurd g3 (not_self v2)
      split <;> rename_i g4 <;> (conv => whnf) <;> repeat (first | (refine rest_vc ?_; conv => whnf) | (refine ⟨by decide, ?_⟩; conv => whnf))
      · exact absurd g4 (not_self u1.toList)
      split <;> rename_i g5 <;> (conv => whnf) <;> repeat (first | (refine rest_vc ?_; conv => whnf) | (refine ⟨by decide, ?_⟩; conv => whnf))
      · exact absurd g5 (not_self u2)
      split <;> rename_i g6 <;> (conv => whnf) <;> repeat (first | (refine rest_vc ?_; conv => whnf) | (refine ⟨by decide, ?_⟩; conv => whnf))
      · exact absurd g6 (not_self u3)
      have hrl : (x.names.map pvN).length = x.names.length := List.length_map ..
      refine awp_loop (n := 137) (α := Nat) (fun i => i ≤ x.names.length) (fun i => [(3, .ipt (scP x)), (7, .ptr 7 0), (8, .ptr 8 0), (20, vI .i64 i)]) (fun i => lT b r) (fun i => x.names.length - i) 0 (fun _ => 0)
        (Nat.zero_le _) rfl ⟨rfl, rfl, rfl, rfl, trivial⟩ rfl (fun _ _ => rfl) (fun _ => ⟨Nat.zero_le _, rfl, rfl⟩) ?_
      rintro i hi
      conv => whnf
      repeat (first | (refine rest_vc ?_; conv => whnf) | (refine ⟨by decide, ?_⟩; conv => whnf))
      intro _
      conv => whnf
      repeat (first | (refine rest_vc ?_; conv => whnf) | (refine ⟨by decide, ?_⟩; conv => whnf))
      split <;> rename_i g7 <;> (conv => whnf) <;> repeat (first | (refine rest_vc ?_; conv => whnf) | (refine ⟨by decide, ?_⟩; conv => whnf))
      · have hlt : i < x.names.length := by have : (i : Int) < ((x.names.map pvN).length : Int) := of_decide_eq_true g7; omega
        have hq : x.names[i]? = some x.names[i] := List.getElem?_eq_getElem hlt
        obtain ⟨y, hy⟩ : ∃ y, y = x.names[i] := ⟨_, rfl⟩
        rw [← hy] at hq
        have hld : ∀ q, (x.names.map pvN)[(i : Int).toNat]? = some q → pvN y = q := fun q hq' => by
          rw [Int.toNat_natCast, List.getElem?_map, hq] at hq'
          exact Option.some.inj hq'
        have bd : 0 ≤ (i : Int) ∧ (i : Int) < ((x.names.map pvN).length : Int) := ⟨by omega, by omega⟩
        have d1 := Find_ok b y.x hp.bl hp.bz hp.bn
        have d2 := rFind_ok r y.x hp.rl hp.ra
        rw [hp.find] at d1
        generalize rfindB r y.x = F at d1 d2
        refine hand_drawL { lds := [2, 4, 6, 10, 12, 14] } [7, 15] (fun _ _ => True) rfl (by kernel_rfl) rfl ?_
        conv => whnf
        repeat (first | (refine rest_vc ?_; conv => whnf) | (refine ⟨by decide, ?_⟩; conv => whnf))
        refine ⟨bd, fun q hq' => ?_⟩
        obtain rfl := hld q hq'
        conv => whnf
        repeat (first | (refine rest_vc ?_; conv => whnf) | (refine ⟨by decide, ?_⟩; conv => whnf))
        refine CallIn.oe [7, 9, 3, 4, 10, 5, 6] d1 (.pure (.list 1 (F.map keyN).isEmpty ((F.map keyN).map pvL))) (lT b r) rfl rfl ?_
        conv => whnf
        repeat (first | (refine rest_vc ?_; conv => whnf) | (refine ⟨by decide, ?_⟩; conv => whnf))
        refine ⟨bd, fun q hq' => ?_⟩
        obtain rfl := hld q hq'
        conv => whnf
        repeat (first | (refine rest_vc ?_; conv => whnf) | (refine ⟨by decide, ?_⟩; conv => whnf))
        refine CallIn.oe [8] d2 (.pure (.list 1 F.isEmpty (F.map pvA2))) (lT b r) rfl rfl ?_
        conv => whnf
        repeat (first | (refine rest_vc ?_; conv => whnf) | (refine ⟨by decide, ?_⟩; conv => whnf))
        intro _
        conv => whnf
        repeat (first | (refine rest_vc ?_; conv => whnf) | (refine ⟨by decide, ?_⟩; conv => whnf))
        intro _
        conv => whnf
        repeat (first | (refine rest_vc ?_; conv => whnf) | (refine ⟨by decide, ?_⟩; conv => whnf))
        have l1 : ((F.map keyN).map pvL).length = F.length := by rw [List.length_map, List.length_map]
        have l2 : (F.map pvA2).length = F.length := List.length_map ..
        split <;> rename_i g8 <;> (conv => whnf) <;> repeat (first | (refine rest_vc ?_; conv => whnf) | (refine ⟨by decide, ?_⟩; conv => whnf))
        · have g8 : (!((((F.map keyN).map pvL).length : Int) == ((F.map pvA2).length : Int))) = true := g8
          rw [l1, l2] at g8
          exact absurd g8 (not_self _)
        · refine awp_loop (n := 137) (α := Nat) (fun j => j ≤ F.length) (fun j => [(3, .ipt (scP x)), (7, .ptr 7 0), (8, .ptr 8 0), (20, vI .i64 i), (21, .pure (.list 1 (F.map keyN).isEmpty ((F.map keyN).map pvL))), (22, .pure (.list 1 F.isEmpty (F.map pvA2))), (23, vI .i64 j)])
            (fun j => lT b r) (fun j => F.length - j) 0 (fun _ => 0) (Nat.zero_le _) rfl ⟨rfl, rfl, rfl, rfl, rfl, rfl, rfl, trivial⟩ rfl (fun _ _ => rfl) (fun _ => ⟨Nat.zero_le _, rfl, rfl⟩) ?_
          rintro j hj
          conv => whnf
          repeat (first | (refine rest_vc ?_; conv => whnf) | (refine ⟨by decide, ?_⟩; conv => whnf))
          intro _
          conv => whnf
          repeat (first | (refine rest_vc ?_; conv => whnf) | (refine ⟨by decide, ?_⟩; conv => whnf))
          split <;> rename_i g9 <;> (conv => whnf) <;> repeat (first | (refine rest_vc ?_; conv => whnf) | (refine ⟨by decide, ?_⟩; conv => whnf))
          · have hjl : j < F.length := by have : (j : Int) < ((((F.map keyN).map pvL).length : Nat) : Int) := of_decide_eq_true g9; omega
            have hz : F[j]? = some F[j] := List.getElem?_eq_getElem hjl
            obtain ⟨z, hzz⟩ : ∃ z, z = F[j] := ⟨_, rfl⟩
            rw [← hzz] at hz
            refine hand_draw [] (fun _ _ => True) rfl (by kernel_rfl) rfl ?_
            conv => whnf
            repeat (first | (refine rest_vc ?_; conv => whnf) | (refine ⟨by decide, ?_⟩; conv => whnf))
            refine ⟨⟨by omega, by rw [l1]; omega⟩, fun q hq' => ?_⟩
            obtain rfl : pvL (keyN z) = q := by
              rw [Int.toNat_natCast, List.getElem?_map, List.getElem?_map, hz] at hq'
              exact Option.some.inj hq'
            conv => whnf
            repeat (first | (refine rest_vc ?_; conv => whnf) | (refine ⟨by decide, ?_⟩; conv => whnf))
            refine ⟨⟨_, rfl⟩, fun l' hl => ?_⟩
            obtain rfl := u8s_inj hl
            conv => whnf
            repeat (first | (refine rest_vc ?_; conv => whnf) | (refine ⟨by decide, ?_⟩; conv => whnf))
            refine ⟨⟨by omega, by rw [l2]; omega⟩, fun q hq' => ?_⟩
            obtain rfl : pvA2 z = q := by
              rw [Int.toNat_natCast, List.getElem?_map, hz] at hq'
              exact Option.some.inj hq'
            conv => whnf
            repeat (first | (refine rest_vc ?_; conv => whnf) | (refine ⟨by decide, ?_⟩; conv => whnf))
            refine ⟨⟨_, rfl⟩, fun l' hl => ?_⟩
            obtain rfl := u8s_inj hl
            conv => whnf
            repeat (first | (refine rest_vc ?_; conv => whnf) | (refine ⟨by decide, ?_⟩; conv => whnf))
            rw [strOf_byS]
            split <;> rename_i g10 <;> (conv => whnf) <;> repeat (first | (refine rest_vc ?_; conv => whnf) | (refine ⟨by decide, ?_⟩; conv => whnf))
            · exact absurd g10 (not_self (keyN z).toList)
            · exact ⟨j + 1, fun _ => 0, hjl, by omega, rfl, ⟨rfl, rfl, rfl, rfl, rfl, rfl, congrArg (vI .i64) (succ64 (by omega)), trivial⟩, rfl, fun _ _ => rfl⟩
          · exact ⟨i + 1, fun _ => 0, hlt, by omega, rfl, ⟨rfl, rfl, rfl, congrArg (vI .i64) (succ64 (by omega)), trivial⟩, rfl, fun _ _ => rfl⟩
      · refine CallIn.to (hk) (k := ?_)
        conv => whnf
        repeat (first | (refine rest_vc ?_; conv => whnf) | (refine ⟨by decide, ?_⟩; conv => whnf))
        exact ⟨rfl, rfl⟩
end Go.Proofs.YtjcbcjmnooploaaGreatDoor
/- law10, the plain law: both books tell the same of names. -/
set_option linter.all false
set_option maxHeartbeats 4000000
set_option maxRecDepth 100000
namespace Go.Proofs.YtjcbcjmnooploaaGreatDoor
open Go Go.RowKit Go.Sy Go.Proofs

theorem byS_strOf {l : List Int} (h : Bts l) : byS (strOfNums l) = l := by
  unfold byS strOfNums
  simp only [List.map_map]
  conv => rhs; rw [← List.map_id l]
  refine List.map_congr_left fun y hy => ?_
  obtain ⟨h1, h2⟩ := h y hy
  obtain ⟨m, rfl⟩ := Int.eq_ofNat_of_zero_le h1
  simp
  omega
theorem name_val {b : Bst} {r : Rst} (h : Lk b r) {n : Nm} (hn : n ∈ r.names) : (lkI eqBA (keyN n) b.names 0).map (·.2) = some n.x := by
  rw [lkI_val (fun _ _ => eqBA_iff) h.namN, h.names.mem_iff]
  exact List.mem_map.2 ⟨n, hn, rfl⟩
theorem nam_at {b : Bst} {r : Rst} (h : Lk b r) {n : Nm} (hn : n ∈ r.names) : namAt b (keyN n) = n.x := by
  have := name_val h hn
  unfold namAt
  cases hc : lkI eqBA (keyN n) b.names 0 with
  | none => rw [hc] at this; cases this
  | some x => rw [hc] at this; exact Option.some.inj this
theorem fstI_mem {α : Type} {p : α → Bool} {x : α} (hp : p x = true) : ∀ {l : List α} {i : Nat}, x ∈ l → 0 ≤ fstI p l i
  | y :: l, i, h => by
    unfold fstI
    split
    · omega
    · rename_i hy
      rcases List.mem_cons.1 h with rfl | h
      · exact absurd hp hy
      · exact fstI_mem hp h
theorem told_eq {b : Bst} {r : Rst} (h : Lk b r) (k : ByteArray) : toldB b k = rtoldB r k := by
  unfold toldB rtoldB
  by_cases hp : 0 ≤ fstI (fun n => eqBA (keyN n) k) r.names 0
  · rw [if_pos hp]
    obtain ⟨l1, q, l2, e1, e2, e3, _⟩ := fstI_pos hp
    have hk := eqBA_iff.1 e3
    have hmem : q ∈ r.names := by rw [e1]; simp
    have hv := name_val h hmem
    rw [hk] at hv
    have hq : r.names.getD (fstI (fun n => eqBA (keyN n) k) r.names 0).toNat zNm = q := by
      rw [e2, e1]
      simp
    rw [hq]
    cases hc : lkI eqBA k b.names 0 with
    | none => rw [hc] at hv; cases hv
    | some x =>
      rw [hc] at hv
      have hv : x.2 = q.x := Option.some.inj hv
      show (x.2, true) = _
      rw [hv]
  · rw [if_neg hp]
    cases hc : lkI eqBA k b.names 0 with
    | none => rfl
    | some x =>
      exfalso
      have hm : (lkI eqBA k b.names 0).map (·.2) = some x.2 := by rw [hc]; rfl
      rw [lkI_val (fun _ _ => eqBA_iff) h.namN, h.names.mem_iff] at hm
      obtain ⟨n, hn, e⟩ := List.mem_map.1 hm
      have e1 : keyN n = k := congrArg Prod.fst e
      exact hp (fstI_mem (p := fun n => eqBA (keyN n) k) (eqBA_iff.2 e1) hn)
theorem tl_of {b : Bst} {r : Rst} (h : Lk b r) (hn : Ns r) : Tl b r := by
  have hs := keys_sorted h hn
  refine ⟨told_eq h, fun ad bits _ => ?_, fun x => ?_, ?_, ?_, ?_, h.namN, hn.bts, fun n hm => ?_⟩
  · have : listB b = rlistB r := by
      unfold listB rlistB
      rw [hs, List.map_map]
      exact List.map_congr_left fun n hm => by simp only [Function.comp]; rw [byS_strOf (hn.bts n hm), nam_at h hm]
    rw [this]
  · unfold findB rfindB
    rw [hs, List.filter_map]
    congr 1
    refine List.filter_congr fun n hm => ?_
    simp only [Function.comp]
    rw [nam_at h hm]
  · have := h.l5; omega
  · have := h.l5; have := h.lnames; omega
  · intro e he
    obtain ⟨n, hm, rfl⟩ := List.mem_map.1 (h.names.mem_iff.1 he)
    have := hn.len n hm
    show (strOfNums n.a).size ≤ 1000000
    rw [strOfNums_size]
    omega
  · have := hn.len n hm
    omega
theorem NamesTold_law (x : Scr) (hx : Good x) (hb : ∀ m, ∀ y ∈ (nameAt x m).a, 0 ≤ y ∧ y ≤ 255) (nl : Bool) (ad : List Int) (n : Int) (had : Bts ad) :
    CallOk Tryz.prog 3 [.pure (pvX x), .pure (.list 1 nl (u8s ad)), vI .i64 n] [] fun r st' => st' = [] ∧ r = vB true :=
  NamesTold_ok isW39 isW43 sort46 x hx nl ad n had (tl_of (run_lk x _) (run_ns x hb _))
end Go.Proofs.YtjcbcjmnooploaaGreatDoor
/- law10: a script out of the reading; the listed variables. -/
set_option linter.all false
set_option maxHeartbeats 4000000
set_option maxRecDepth 100000
namespace Go.Proofs.YtjcbcjmnooploaaGreatDoor
open Go Go.RowKit Go.Sy Go.Proofs Go.ChangeShapes Go.WideShapes Go.ChangeAt

section
variable {H : Type} {enc : TypeId × Value → H}
theorem r5 : Reads enc Tryz.prog 5 (fun n : Int => .val (.int .u8 n)) (fun _ => 1) (fun n => IntKind.u8.min ≤ n ∧ n ≤ IntKind.u8.max) := reads_int Tryz.underlying5
theorem r3 : Reads enc Tryz.prog 3 (fun n : Int => .val (.int .i64 n)) (fun _ => 1) (fun n => IntKind.i64.min ≤ n ∧ n ≤ IntKind.i64.max) := reads_int Tryz.underlying3
theorem r9 : Reads enc Tryz.prog 9 (fun s : ByteArray => .val (.string s)) (fun s => s.size + 1) (fun s => s.size ≤ maxLen) := reads_string Tryz.underlying9
def rBs := reads_slice (sz := 1) (P := Tryz.prog) (t := 27) (by kernel_rfl) (by kernel_rfl) (r5 (H := H) (enc := enc))
def rRow := reads_struct (P := Tryz.prog) (t := 45) (l := [9, 3, 9]) Tryz.underlying45 rfl (by kernel_rfl) (by kernel_rfl) (readsF_cons (r9 (H := H) (enc := enc)) (readsF_cons (r3 (H := H) (enc := enc)) (readsF_cons (r9 (H := H) (enc := enc)) readsF_nil)))
def rName := reads_struct (P := Tryz.prog) (t := 42) (l := [27, 9]) Tryz.underlying42 rfl (by kernel_rfl) (by kernel_rfl) (readsF_cons (rBs (H := H) (enc := enc)) (readsF_cons (r9 (H := H) (enc := enc)) readsF_nil))
def rAct := reads_struct (P := Tryz.prog) (t := 47) (l := [3, 3, 3, 3, 9, 27]) Tryz.underlying47 rfl (by kernel_rfl) (by kernel_rfl)
  (readsF_cons (r3 (H := H) (enc := enc)) (readsF_cons (r3 (H := H) (enc := enc)) (readsF_cons (r3 (H := H) (enc := enc)) (readsF_cons (r3 (H := H) (enc := enc)) (readsF_cons (r9 (H := H) (enc := enc)) (readsF_cons (rBs (H := H) (enc := enc)) readsF_nil))))))
def rRows := reads_slice (sz := 3) (P := Tryz.prog) (t := 22) (by kernel_rfl) (by kernel_rfl) (rRow (H := H) (enc := enc))
def rNames := reads_slice (sz := 2) (P := Tryz.prog) (t := 23) (by kernel_rfl) (by kernel_rfl) (rName (H := H) (enc := enc))
def rActs := reads_slice (sz := 6) (P := Tryz.prog) (t := 24) (by kernel_rfl) (by kernel_rfl) (rAct (H := H) (enc := enc))
def rScr := reads_struct (P := Tryz.prog) (t := 26) (l := [22, 23, 24]) Tryz.underlying26 rfl (by kernel_rfl) (by kernel_rfl) (readsF_cons (rRows (H := H) (enc := enc)) (readsF_cons (rNames (H := H) (enc := enc)) (readsF_cons (rActs (H := H) (enc := enc)) readsF_nil)))
def aScr := (rScr (H := H) (enc := enc)).agg (by kernel_rfl)
end

def toR (y : ByteArray × Int × ByteArray × Unit) : Rw := ⟨y.1, y.2.1, y.2.2.1⟩
def toN (y : (Bool × List Int) × ByteArray × Unit) : Nm := ⟨y.1.1, y.1.2, y.2.1⟩
def toA (y : Int × Int × Int × Int × ByteArray × (Bool × List Int) × Unit) : Ac := ⟨y.1, y.2.1, y.2.2.1, y.2.2.2.1, y.2.2.2.2.1, y.2.2.2.2.2.1.1, y.2.2.2.2.2.1.2⟩
def toX (x : (Bool × List (ByteArray × Int × ByteArray × Unit)) × (Bool × List ((Bool × List Int) × ByteArray × Unit)) × (Bool × List (Int × Int × Int × Int × ByteArray × (Bool × List Int) × Unit)) × Unit) : Scr :=
  ⟨x.1.1, x.1.2.map toR, x.2.1.1, x.2.1.2.map toN, x.2.2.1.1, x.2.2.1.2.map toA⟩

theorem sumWt_mem {α : Type} {wt : α → Nat} : ∀ {l : List α} {y : α}, y ∈ l → wt y ≤ sumWt wt l
  | x :: l, y, h => by
    simp only [sumWt, List.map_cons, List.sum_cons]
    rcases List.mem_cons.1 h with rfl | h
    · omega
    · have := sumWt_mem (wt := wt) h
      simp only [sumWt] at this
      omega
theorem sumWt_len {α : Type} {wt : α → Nat} (hw : ∀ y, 1 ≤ wt y) : ∀ l : List α, l.length ≤ sumWt wt l
  | [] => Nat.zero_le _
  | x :: l => by
    have := sumWt_len hw l
    have := hw x
    simp only [sumWt, List.map_cons, List.sum_cons, List.length_cons] at *
    omega


/-- **A script, read.** -/
theorem scr_of {H : Type} {enc : TypeId × Value → H} {W : World} {v0 : Value} {d0 : DataW H} {p0 : List MemPlace} {base : Nat} (hv : Value.okWide Tryz.prog W .any base 26 v0) (h0 : DataW.Trod enc Tryz.prog W 0 (fun _ => true) true 26 v0 d0 p0) (hb : Rows.uptoBulk d0 ≤ 1048576) :
    ∃ X : Scr, Good X ∧ RP allImm W (pvX X) v0 ∧ ∀ m, ∀ y ∈ (nameAt X m).a, 0 ≤ y ∧ y ≤ 255 := by
  obtain ⟨x, i0, w0, c0⟩ := aScr (H := H) (enc := enc) W v0 d0 p0 base hv h0
  have w0' : 1 + ((1 + sumWt (fun y : ByteArray × Int × ByteArray × Unit => 1 + ((y.1.size + 1) + (1 + ((y.2.2.1.size + 1) + 0)))) x.1.2) +
    ((1 + sumWt (fun y : (Bool × List Int) × ByteArray × Unit => 1 + ((1 + sumWt (fun _ : Int => 1) y.1.2) + ((y.2.1.size + 1) + 0))) x.2.1.2) +
    ((1 + sumWt (fun y : Int × Int × Int × Int × ByteArray × (Bool × List Int) × Unit => 1 + (1 + (1 + (1 + (1 + ((y.2.2.2.2.1.size + 1) + ((1 + sumWt (fun _ : Int => 1) y.2.2.2.2.2.1.2) + 0))))))) x.2.2.1.2) + 0))) ≤ Rows.uptoBulk d0 := w0
  have s1 : sumWt (fun y : ByteArray × Int × ByteArray × Unit => 1 + ((y.1.size + 1) + (1 + ((y.2.2.1.size + 1) + 0)))) x.1.2 ≤ 1048576 := by omega
  have s2 : sumWt (fun y : (Bool × List Int) × ByteArray × Unit => 1 + ((1 + sumWt (fun _ : Int => 1) y.1.2) + ((y.2.1.size + 1) + 0))) x.2.1.2 ≤ 1048576 := by omega
  have s3 : sumWt (fun y : Int × Int × Int × Int × ByteArray × (Bool × List Int) × Unit => 1 + (1 + (1 + (1 + (1 + ((y.2.2.2.2.1.size + 1) + ((1 + sumWt (fun _ : Int => 1) y.2.2.2.2.2.1.2) + 0))))))) x.2.2.1.2 ≤ 1048576 := by omega
  have l1 := sumWt_len (wt := fun y : ByteArray × Int × ByteArray × Unit => 1 + ((y.1.size + 1) + (1 + ((y.2.2.1.size + 1) + 0)))) (fun y => by omega) x.1.2
  have l2 := sumWt_len (wt := fun y : (Bool × List Int) × ByteArray × Unit => 1 + ((1 + sumWt (fun _ : Int => 1) y.1.2) + ((y.2.1.size + 1) + 0))) (fun y => by omega) x.2.1.2
  have l3 := sumWt_len (wt := fun y : Int × Int × Int × Int × ByteArray × (Bool × List Int) × Unit => 1 + (1 + (1 + (1 + (1 + ((y.2.2.2.2.1.size + 1) + ((1 + sumWt (fun _ : Int => 1) y.2.2.2.2.2.1.2) + 0))))))) (fun y => by omega) x.2.2.1.2
  have hg : Good (toX x) := by
    refine good_of (toX x) ?_ ?_ ?_ ?_ ?_ ?_ ?_
    · show ((x.1.2.map toR).length : Int) ≤ 2000000
      rw [List.length_map]; omega
    · show ((x.2.1.2.map toN).length : Int) ≤ 2000000
      rw [List.length_map]; omega
    · show ((x.2.2.1.2.map toA).length : Int) ≤ 2000000
      rw [List.length_map]; omega
    · intro m hm
      obtain ⟨y, hy, rfl⟩ := List.mem_map.1 hm
      have h3 := sumWt_mem (wt := fun y : (Bool × List Int) × ByteArray × Unit => 1 + ((1 + sumWt (fun _ : Int => 1) y.1.2) + ((y.2.1.size + 1) + 0))) hy
      have h4 := sumWt_len (wt := fun _ : Int => 1) (fun _ => Nat.le_refl _) y.1.2
      show (y.1.2.length : Int) ≤ 2000000
      omega
    · intro m hm
      obtain ⟨y, hy, rfl⟩ := List.mem_map.1 hm
      have h3 := sumWt_mem (wt := fun y : (Bool × List Int) × ByteArray × Unit => 1 + ((1 + sumWt (fun _ : Int => 1) y.1.2) + ((y.2.1.size + 1) + 0))) hy
      show (y.2.1.size : Int) ≤ 2000000
      omega
    · intro m hm
      obtain ⟨y, hy, rfl⟩ := List.mem_map.1 hm
      have h3 := sumWt_mem (wt := fun y : ByteArray × Int × ByteArray × Unit => 1 + ((y.1.size + 1) + (1 + ((y.2.2.1.size + 1) + 0)))) hy
      exact ⟨by show (y.1.size : Int) ≤ 2000000; omega, by show (y.2.2.1.size : Int) ≤ 2000000; omega⟩
    · intro m hm
      obtain ⟨y, hy, rfl⟩ := List.mem_map.1 hm
      have h3 := sumWt_mem (wt := fun y : Int × Int × Int × Int × ByteArray × (Bool × List Int) × Unit => 1 + (1 + (1 + (1 + (1 + ((y.2.2.2.2.1.size + 1) + ((1 + sumWt (fun _ : Int => 1) y.2.2.2.2.2.1.2) + 0))))))) hy
      show (y.2.2.2.2.1.size : Int) ≤ 2000000
      omega
  have cX : RP allImm W (pvX (toX x)) v0 := by
    have e1 : (x.1.2.map toR).map pvR = x.1.2.map fun y => PV.agg (PV.cells (.val (.string y.1)) ++ (PV.cells (.val (.int .i64 y.2.1)) ++ (PV.cells (.val (.string y.2.2.1)) ++ []))) := by rw [List.map_map]; rfl
    have e2 : (x.2.1.2.map toN).map pvN = x.2.1.2.map fun y => PV.agg (PV.cells (.list 1 y.1.1 (y.1.2.map fun n : Int => .val (.int .u8 n))) ++ (PV.cells (.val (.string y.2.1)) ++ [])) := by rw [List.map_map]; rfl
    have e3 : (x.2.2.1.2.map toA).map pvA = x.2.2.1.2.map fun y => PV.agg (PV.cells (.val (.int .i64 y.1)) ++ (PV.cells (.val (.int .i64 y.2.1)) ++ (PV.cells (.val (.int .i64 y.2.2.1)) ++ (PV.cells (.val (.int .i64 y.2.2.2.1)) ++ (PV.cells (.val (.string y.2.2.2.2.1)) ++ (PV.cells (.list 1 y.2.2.2.2.2.1.1 (y.2.2.2.2.2.1.2.map fun n : Int => .val (.int .u8 n))) ++ [])))))) := by rw [List.map_map]; rfl
    unfold pvX toX
    simp only
    rw [e1, e2, e3]
    exact c0
  refine ⟨toX x, hg, cX, fun m => ?_⟩
  have hall : ∀ n ∈ (toX x).names, ∀ y ∈ n.a, 0 ≤ y ∧ y ≤ 255 := fun n hn y hy => by
    obtain ⟨z, hz, rfl⟩ := List.mem_map.1 hn
    have := (i0.2.1.2.2 z hz).1.2.2 y hy
    have e1 : IntKind.u8.min = 0 := rfl
    have e2 : IntKind.u8.max = 255 := rfl
    omega
  unfold nameAt
  split
  · intro y hy; cases hy
  · rw [List.getD_eq_getElem?_getD]
    cases hc : (toX x).names[m.toNat]? with
    | none => intro y hy; cases hy
    | some z => exact hall z (List.mem_of_getElem? hc)

theorem gAscii : Tryz.prog.globalNamed "strings.asciiSpace" = some 0 := by kernel_rfl
theorem ascii_eq : (Rows.laid_strings_asciiSpace : DataW Unit) = Lib.tabData .u8 Lib.asciiSpaceTab := by kernel_rfl
theorem table {W : World} (h : laidMetH Tryz.prog [("unicode.White_Space", Rows.laid_unicode_White_Space), ("strings.asciiSpace", Rows.laid_strings_asciiSpace)] W) : Lib.TabIs Tryz.prog W "strings.asciiSpace" .u8 Lib.asciiSpaceTab := by
  have h : laidMet Tryz.prog [("unicode.White_Space", Rows.laid_unicode_White_Space), ("strings.asciiSpace", Rows.laid_strings_asciiSpace)] W := h
  have h := laidMet.tail h
  rw [ascii_eq] at h
  exact Lib.tabIs_of_head (rest := []) gAscii (t := 168) (e := 5) (n := 256) (by kernel_rfl) (by kernel_rfl) (by kernel_rfl) (by kernel_rfl) (by kernel_rfl) h
theorem gl_of {W : World} (h : laidMetH Tryz.prog [("unicode.White_Space", Rows.laid_unicode_White_Space), ("strings.asciiSpace", Rows.laid_strings_asciiSpace)] W) : Gl allImm W := by
  intro p hp
  have : p = tabFact 0 .u8 Lib.asciiSpaceTab := List.mem_singleton.1 hp
  subst this
  exact TabAt.of_tabIs gAscii rfl (table h)

/-- A world for the witness: the settled one with two blocks more (unicode.White_Space's ranges; its RangeTable), the two variables holding what their initialisers lay. -/
noncomputable def laidWorld (os : Os) : World :=
  let N := (World.settled Tryz.prog os).heap.size
  let w0 := World.holding Tryz.prog os ⟨#[.cells (Lib.whiteT.map fun (z : Nat) => Value.int .u16 (z : Int)).toArray (YtjcbcjmnooploaaGreatDoor.lays157_ren.t 198), .cells #[.slice (some ⟨N, 0, none⟩) 7 7, .slice none 0 0, .int .i64 2] (YtjcbcjmnooploaaGreatDoor.lays157_ren.t 196)], #[], []⟩
  let put (h : Array Obj) (g : Nat) (cs : Array Value) : Array Obj := h.modify g fun
    | .cells _ t frozen => .cells cs t frozen
    | o => o
  let h1 := put w0.heap 0 (Lib.asciiSpaceTab.map fun z => Value.int .u8 z).toArray
  let h2 := put h1 1 #[.pointer (some ⟨N + 1, 0, none⟩)]
  { w0 with heap := h2 }
theorem own3 : ownKnob Tryz.prog.godebug = none := by kernel_rfl
end Go.Proofs.YtjcbcjmnooploaaGreatDoor

set_option linter.all false
set_option maxHeartbeats 4000000
set_option maxRecDepth 100000
namespace Go.Proofs.YtjcbcjmnooploaaGreatDoor
open Go Go.RowKit Go.Sy Go.Proofs Go.ChangeShapes Go.WideShapes Go.ChangeAt

section
variable {H : Type} {enc : TypeId × Value → H}
def aBs := (rBs (H := H) (enc := enc)).one (by kernel_rfl) (fun _ => rfl)
def aInt := (r3 (H := H) (enc := enc)).one (by kernel_rfl) (fun _ => rfl)
end

theorem contract (H : Type) (enc : TypeId × Value → H) (W : World) (base : Nat) (args : Array Value) (ds gs : List (DataW H)) (before : List MemPlace)
    (hval : ∀ (j : Nat) t v, Tryz.f3.params[j]? = some t → args[j]? = some v → Value.okWide Tryz.prog W .any base t v)
    (hW : DataW.Whole enc Tryz.prog Tryz.f3.params.toList Rows.namesToldSpec.vars false W args.toList ds gs before) (hL : laidMetH Tryz.prog Rows.namesToldRow.laid W) (hk : Rows.uptoSmall H (ds ++ gs) = true) :
    Calls Tryz.prog 3 args W fun e W' => ∃ v, e = .returned v ∧ Rows.namesToldSpec.post enc Tryz.prog Tryz.f3 false true false false W args v W' := by
  have hW' := hW
  obtain ⟨p, q, hA0, hV, rfl, hfz, hnd⟩ := hW
  have hA : DataW.TrodAll enc Tryz.prog W 0 (fun _ => true) true Tryz.f3.params.toList args.toList ds p := hA0
  rw [Tryz.params3] at hA hval
  obtain ⟨v0, vs0, d0, ds0, p0, q0, hargs, rfl, rfl, h0, hr0⟩ := trodAll_cons hA
  obtain ⟨v1, vs1, d1, ds1, p1, q1, hargs1, rfl, rfl, h1, hr1⟩ := trodAll_cons hr0
  obtain ⟨v2, vs2, d2, ds2, p2, q2, hargs2, rfl, rfl, h2, hr2⟩ := trodAll_cons hr1
  obtain ⟨rfl, rfl, rfl⟩ := trodAll_nil hr2
  obtain rfl : args = #[v0, v1, v2] := by cases args; simp_all
  obtain ⟨rfl, rfl⟩ := trodVars_none hV
  have hb : Rows.uptoBulkAll [d0, d1, d2] ≤ 1048576 := by
    have := of_decide_eq_true hk
    simpa using this
  simp only [Rows.uptoBulkAll] at hb
  obtain ⟨X, hg, cX, hXb⟩ := scr_of (H := H) (enc := enc) (hval 0 26 v0 rfl rfl) h0 (by omega)
  obtain ⟨l, i1, w1, c1⟩ := aBs (H := H) (enc := enc) W v1 d1 p1 base (hval 1 27 v1 rfl rfl) h1
  obtain ⟨n, i2, w2, c2⟩ := aInt (H := H) (enc := enc) W v2 d2 p2 base (hval 2 3 v2 rfl rfl) h2
  have had : Bts l.2 := fun y hy => by
    have := i1.2.2 y hy
    have e1 : IntKind.u8.min = 0 := rfl
    have e2 : IntKind.u8.max = 255 := rfl
    omega
  have ok := NamesTold_law X hg hXb l.1 l.2 n had
  exact law_post (f := 3) (fn := Tryz.f3) (s := Rows.namesToldSpec) (tb := 4) (svs := [.pure (pvX X), .pure (.list 1 l.1 (u8s l.2)), vI .i64 n]) (by kernel_rfl) (by kernel_rfl) rfl (by kernel_rfl) Tryz.underlying4 rfl hW' (gl_of hL) ⟨v0, _, rfl, cX, v1, _, rfl, c1, v2, _, rfl, c2, rfl⟩ (ok.mono fun r st' h => ⟨h.2, h.1⟩)

abbrev zArgs : Array Value := #[.agg #[.slice none 0 0, .slice none 0 0, .slice none 0 0], .slice none 0 0, .int .i64 0]
theorem laid_met (os : Os) : laidMet Tryz.prog Rows.namesToldRow.laid ((laidWorld os).forCall (fun _ _ => 0) ⟨#[], zArgs, []⟩).memory :=
  laidMet_of_run' 8 (by kernel_rfl) (by kernel_rfl)
theorem reads (os : Os) {H : Type} (enc : TypeId × Value → H) : ∃ places, DataW.whole enc Tryz.prog ((laidWorld os).forCall (fun _ _ => 0) ⟨#[], zArgs, []⟩).memory Tryz.f3.params.toList Rows.namesToldSpec.vars false zArgs.toList 8 = some ([.agg [.nil, .nil, .nil], .nil, .lit (.int .i64 0)], [], places) :=
  ⟨[], by kernel_rfl⟩

set_option maxRecDepth 100000 in
theorem liftedUpto (os : Os) (started : os.Started) (H : Type) (enc : TypeId × Value → H) (F : Stop.Interp) :
    ReturnsInHanded {} Tryz.checked os 3 .any ((Rows.OpenSpec.upto Rows.namesToldSpec).preRow enc Tryz.prog Tryz.f3 Rows.namesToldUptoRow.domain false Rows.namesToldUptoRow.laid) (((Rows.OpenSpec.upto Rows.namesToldSpec).at F).post enc Tryz.prog Tryz.f3 false true false false) := by
  obtain ⟨places, hx⟩ := reads os enc
  refine returnsInHanded_of_row (C := Tryz.checked) (s := Rows.OpenSpec.upto Rows.namesToldSpec) own3 started (by kernel_rfl) Tryz.func3
    (witness_row_atRef (enc := enc) (C := Tryz.checked) false (laidWorld os) zArgs rfl (by kernel_rfl) (by kernel_rfl) (by kernel_rfl)
      (OpenSpec.preRow_of_cond 8 hx (by kernel_rfl) (fun k hk => by cases hk; kernel_rfl) (by kernel_rfl) (laid_met os))) ?_
  intro W base args ds gs before hval hW _ hcond _ hL _ _
  exact contract H enc W base args ds gs before hval hW hL (hcond _ rfl)

theorem saidUpto : Rows.NamesToldUptoSaid :=
  OpenClaim.holds_of_cond 3 Tryz.f3 rfl rfl rfl rfl rfl rfl rfl ⟨rfl, rfl, rfl, rfl, rfl⟩ rfl rfl rfl rfl rfl (by kernel_rfl) Tryz.func3 (by kernel_rfl)
    (of_decide_eq_true (by kernel_rfl)) (by unfold Func.isWrapper; first | (rw [if_pos (by decide +kernel)]; kernel_rfl) | (rw [if_neg (by decide +kernel)]; exact ⟨rfl, rfl⟩))
    (fun os started H enc _ F => by rw [OpenClaim.pre_eq_preRow]; exact liftedUpto os started H enc F)

/-- No parameter wants a stand-in; the program's own looks are off: what the card asks. -/
theorem plain (f : FuncId) (fn : Func) (hf : Tryz.pinned.checked.prog.funcNamed Rows.namesToldRow.func = some f) (hfn : Tryz.pinned.checked.prog.funcs[f]? = some fn) :
    false = Tryz.pinned.checked.prog.looks [] ∧ ∀ (j : Nat) t, fn.params[j]? = some t → Tryz.pinned.checked.prog.wantsStandIn t = false := by
  obtain rfl : f = 3 := Option.some.inj ((show Tryz.prog.funcNamed Rows.namesToldRow.func = some 3 by kernel_rfl).symm.trans hf) |>.symm
  obtain rfl : fn = Tryz.f3 := (Option.some.inj (Tryz.func3.symm.trans hfn)).symm
  refine ⟨by kernel_rfl, fun j t ht => ?_⟩
  have hall : (Tryz.f3.params.toList.all fun t => Tryz.prog.wantsStandIn t == false) = true := by kernel_rfl
  have := List.all_eq_true.1 hall t (Array.mem_toList_iff.2 (Array.mem_of_getElem? ht))
  have h2 : Tryz.prog.wantsStandIn t = false := by simpa using this
  exact h2

theorem NamesTold_holds : Rows.NamesToldUptoCardSaid :=
  Claim7.holds_tied_plain_at .later [] _ _ _ _ saidUpto (fun _ h => by cases h) (by kernel_rfl) (fun _ h => by cases h) namesToldUpto_row_tie rfl ⟨rfl, rfl⟩ (by kernel_rfl) rfl plain (by kernel_rfl)
#print axioms NamesTold_holds
end Go.Proofs.YtjcbcjmnooploaaGreatDoor
