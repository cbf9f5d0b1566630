/- The walk's operations are what the model does: loads, addresses, lengths, parts. -/
import Derived.Test.YtlnmkolppgkglaaSyF
set_option linter.all false
set_option maxHeartbeats 4000000
namespace Go.Sy
open Go.RowKit

section
variable {P : Program} {χ : Nat → Color} {w : World} {G : Gh} {st : List Ob}

theorem add_add (ad : Addr) (i j : Nat) : (ad.add i).add j = ad.add (i + j) := by
  unfold Addr.add
  by_cases h1 : i = 0 <;> by_cases h2 : j = 0 <;> simp [h1, h2, Nat.add_assoc]
theorem add_blk (ad : Addr) (i : Nat) : (ad.add i).block = ad.block := by unfold Addr.add; split <;> rfl
theorem add_pl (g i j : Nat) : (⟨g, i, none⟩ : Addr).add j = ⟨g, i + j, none⟩ := by unfold Addr.add; split <;> simp_all

theorem isAgg_run {t : TypeId} (h : (P.underlying t).isSome = true) (w : World) : (isAgg t).run P w = .ok (isAggT P t) w := by
  obtain ⟨d, hd⟩ := Option.isSome_iff_exists.1 h
  unfold isAgg isAggT
  simp only [Sem.run_bind, run_underlying hd, Result.andThen_ok, hd]
  cases d <;> rfl
theorem sizeOf_run {t : TypeId} (h : (P.info? t).isSome = true) (w : World) : (sizeOf t).run P w = .ok (szOf P t) w := by
  obtain ⟨d, hd⟩ := Option.isSome_iff_exists.1 h
  simp [sizeOf, typeInfo, szOf, hd]

theorem loadVar_agg {t : TypeId} (h1 : (P.underlying t).isSome = true) (h2 : (P.info? t).isSome = true) (ha : isAggT P t = true) {ad : Addr} {us : List Value} (hl : us.length = szOf P t)
    (hc : ∀ k u, us[k]? = some u → w.cell? (ad.add k) = some u) : (loadVar t ad).run P w = .ok (.agg us.toArray) w := by
  simp [loadVar, isAgg_run h1, ha, sizeOf_run h2, ← hl, run_loadCells_list w ad us hc]
theorem loadVar_one {t : TypeId} (h1 : (P.underlying t).isSome = true) (ha : isAggT P t = false) {ad : Addr} {u : Value} (hc : w.cell? ad = some u) : (loadVar t ad).run P w = .ok u w := by
  simp [loadVar, isAgg_run h1, ha, hc]

theorem Cells.tail {A : Addr} {us : List Value} (h : Cells χ w (some A) us) (k : Nat) : Cells χ w (some (A.add k)) (us.drop k) := by
  intro j u hu
  rw [List.getElem?_drop] at hu
  obtain ⟨ad, e, hi, hc⟩ := h (k + j) u hu
  injection e with e
  subst e
  exact ⟨_, rfl, by rw [add_blk]; exact hi, by rw [add_add]; exact hc⟩

theorem RP.cells_len {p : PV} {u : Value} (h : RP χ w p u) : p.cells.length = u.cells.size := by
  cases p with
  | val v =>
    have h : u = v := h
    subst h
    cases u <;> simp [PV.cells, Value.cells]
  | agg cs =>
    obtain ⟨us, rfl, h⟩ := h
    simp [PV.cells, Value.cells, h.length]
  | list sz nl xs =>
    obtain ⟨A, c, us, rfl, _⟩ := h
    simp [PV.cells, Value.cells]

theorem RP_one {p : PV} {u : Value} (h : RP χ w p u) (ho : ∀ y ∈ u.cells.toList, y.oneCell' = true) : p.one = true := by
  cases p with
  | val v =>
    have h : u = v := h
    subst h
    simp only [PV.one, List.all_eq_true]
    intro y hy
    exact ho y (by simpa using hy)
  | agg cs => rfl
  | list sz nl xs => rfl

/-- The cells of a vec's element. -/
theorem vec_elem {o n e sz : Nat} {nl : Bool} {xs : List PV} (h : RO χ w G o (.vec n e sz nl xs)) {i : Nat} {p : PV} (hp : xs[i]? = some p) :
    ∃ g l c u, G o = some (.ver n (.slice (some ⟨g, 0, none⟩) l c)) ∧ χ g = .own o ∧ RP χ w p u ∧ u.cells.size = sz ∧ (∀ y ∈ u.cells.toList, y.oneCell' = true) ∧ (∀ k v, u.cells.toList[k]? = some v → w.cell? ⟨g, i * sz + k, none⟩ = some v) ∧
      l = xs.length ∧ ∃ cur, w.heap[g]? = some (.cells cur e (0, 0)) ∧ xs.length ≤ c ∧ c ≤ maxLen ∧ cur.size = c * sz ∧ ∃ us, RF χ w sz xs us ∧ cur.toList.take (xs.length * sz) = us ∧ us.drop (i * sz) = u.cells.toList ++ us.drop (i * sz + sz) ∧ nl = false := by
  obtain ⟨h, us, hG, hown, hf, hnl, hcol⟩ := h
  obtain ⟨u, hu1, hu2, hu3, hu4⟩ := hf.get hp
  have hi : i < xs.length := (List.getElem?_eq_some_iff.1 hp).1
  obtain ⟨hl, hrest⟩ := hown
  rcases hrest with ⟨rfl, h0⟩ | ⟨g, c, cur, rfl, _, hg, hle, hm, hcs, htk⟩
  · omega
  · refine ⟨g, _, c, u, hG, hcol g rfl, hu1, hu2, hu3, fun k v hk => ?_, rfl, cur, hg, hle, hm, hcs, us, hf, htk, hu4, by cases nl with | false => rfl | true => exact absurd (hnl.1 rfl) (by simp)⟩
    have hk' : k < sz := by
      have := (List.getElem?_eq_some_iff.1 hk).1
      simp at this
      omega
    have e1 : us[i * sz + k]? = some v := by
      have : (us.drop (i * sz))[k]? = some v := by
        rw [hu4, List.getElem?_append_left (by simpa [hu2] using hk')]
        exact hk
      rwa [List.getElem?_drop] at this
    rw [World.cell?, hg]
    simp only [Option.isSome_none, Bool.false_eq_true, if_false]
    rw [← htk, List.getElem?_take] at e1
    split at e1
    · simpa using e1
    · cases e1

theorem load_run {t : TypeId} {x : SV} {vx : Value} {R : SV → Prop} (hx : RS χ w G x vx) (hst : RSt χ w G st) (h : vcLoad P t x st R) :
    ∃ s v, R s ∧ (Instr.loadAt t vx).run P w = .ok v w ∧ RS χ w G s v := by
  unfold vcLoad at h
  simp only [must_iff, Bool.and_eq_true] at h
  obtain ⟨⟨h1, h2⟩, h⟩ := h
  split at h
  · rename_i cs
    obtain ⟨ad, us, rfl, hl, hc⟩ := hx
    have hc' : ∀ k u, us[k]? = some u → w.cell? (ad.add k) = some u := fun k u hu => by
      obtain ⟨_, e, _, h⟩ := hc k u hu
      injection e with e
      subst e
      exact h
    by_cases ha : isAggT P t = true
    · rw [if_pos ha] at h
      simp only [must_iff, decide_eq_true_eq] at h
      refine ⟨_, .agg (us.take (szOf P t)).toArray, h.2, ?_, ⟨_, rfl, hl.take _⟩⟩
      have hlen := hl.length
      simp only [Instr.loadAt, Instr.sureAddr, Sem.run_bind, Sem.run_pure, Result.andThen_ok]
      exact loadVar_agg h1 h2 ha (by rw [List.length_take]; omega) (fun k u hu => hc' k u (by rw [List.getElem?_take] at hu; split at hu; exact hu; cases hu))
    · rw [if_neg ha] at h
      split at h
      · rename_i c cs'
        obtain ⟨u, r, rfl, _, hr, _⟩ := hl
        refine ⟨_, u, h, ?_, hr⟩
        simp only [Instr.loadAt, Instr.sureAddr, Sem.run_bind, Sem.run_pure, Result.andThen_ok]
        exact loadVar_one h1 (by simpa using ha) (by simpa [Addr.add] using hc' 0 u rfl)
      · exact h.elim
  · rename_i o k
    obtain ⟨g, hG, rfl⟩ := hx
    split at h
    · rename_i T cs hob
      obtain ⟨g', us, hG', hcol, hheap, hl⟩ := hst o _ hob
      rw [hG] at hG'
      injection hG' with hG'
      injection hG' with hG'
      subst hG'
      have hcell : ∀ j u, us[j]? = some u → w.cell? ⟨g, j, none⟩ = some u := fun j u hu => by simp [World.cell?, hheap, hu]
      have hlen := hl.length
      by_cases ha : isAggT P t = true
      · rw [if_pos ha] at h
        simp only [must_iff, decide_eq_true_eq] at h
        refine ⟨_, .agg ((us.drop k).take (szOf P t)).toArray, h.2, ?_, RS_mkAgg ((hl.drop k).take _)⟩
        simp only [Instr.loadAt, Instr.sureAddr, Sem.run_bind, Sem.run_pure, Result.andThen_ok]
        exact loadVar_agg h1 h2 ha (by rw [List.length_take, List.length_drop]; omega) (fun j u hu => by
          rw [List.getElem?_take] at hu
          split at hu
          · rw [List.getElem?_drop] at hu; rw [add_pl]; exact hcell _ _ hu
          · cases hu)
      · rw [if_neg ha] at h
        simp only [must_iff, decide_eq_true_eq] at h
        obtain ⟨u, hu, hr, _⟩ := hl.get (k := k) (p := cs.getD k .dead) (by rw [List.getD_eq_getElem?_getD, List.getElem?_eq_getElem h.1]; rfl)
        refine ⟨_, u, h.2, ?_, hr⟩
        simp only [Instr.loadAt, Instr.sureAddr, Sem.run_bind, Sem.run_pure, Result.andThen_ok]
        exact loadVar_one h1 (by simpa using ha) (hcell _ _ hu)
    · rename_i T m xs hob
      obtain ⟨g', us, vs, hG', hcol, hheap, hum, hl⟩ := hst o _ hob
      rw [hG] at hG'
      injection hG' with hG'
      injection hG' with hG'
      subst hG'
      have hcell : ∀ j u, us[j]? = some u → w.cell? ⟨g, j, none⟩ = some u := fun j u hu => by have hj := (List.getElem?_eq_some_iff.1 hu).1; simp [World.cell?, hheap, List.getElem?_append_left hj, hu]
      have hlen := hl.length
      by_cases ha : isAggT P t = true
      · rw [if_pos ha] at h
        simp only [must_iff, decide_eq_true_eq] at h
        refine ⟨_, .agg ((us.drop k).take (szOf P t)).toArray, h.2, ?_, ⟨_, rfl, (hl.drop k).take _⟩⟩
        simp only [Instr.loadAt, Instr.sureAddr, Sem.run_bind, Sem.run_pure, Result.andThen_ok]
        exact loadVar_agg h1 h2 ha (by rw [List.length_take, List.length_drop]; omega) (fun j u hu => by
          rw [List.getElem?_take] at hu
          split at hu
          · rw [List.getElem?_drop] at hu; rw [add_pl]; exact hcell _ _ hu
          · cases hu)
      · rw [if_neg ha] at h
        have hkl : k < xs.length := by omega
        obtain ⟨u, hu, hr, _⟩ := hl.get (List.getElem?_eq_getElem hkl)
        refine ⟨_, u, h.2 _ (List.getElem?_eq_getElem hkl), ?_, hr⟩
        simp only [Instr.loadAt, Instr.sureAddr, Sem.run_bind, Sem.run_pure, Result.andThen_ok]
        exact loadVar_one h1 (by simpa using ha) (hcell _ _ hu)
    · exact h.elim
  · rename_i o n sz i off
    obtain ⟨ad, rfl, m, hh, hG, hle, hx⟩ := hx
    split at h
    · rename_i m' e sz' nl xs hob
      simp only [must_iff, beq_iff_eq, Bool.and_eq_true] at h
      obtain ⟨⟨rfl, rfl⟩, hi, h⟩ := h
      have hp : xs[i]? = some xs[i] := List.getElem?_eq_getElem hi
      obtain ⟨g, l, c, u, hG', hcol, hr, hsz, hone, hcell, _⟩ := vec_elem (hst o _ hob) hp
      rw [hG] at hG'
      injection hG' with hG'
      injection hG' with e1 e2
      subst e1 e2
      obtain ⟨g', l', c', e3, rfl⟩ := hx rfl
      injection e3 with e3
      injection e3 with e3
      injection e3 with e3
      subst e3
      have h := h _ hp
      have hpl := hr.cells_len
      have hrl := RL_cells (RP_one hr hone) hr
      have hrlen := hrl.length
      by_cases ha : isAggT P t = true
      · rw [if_pos ha] at h
        simp only [must_iff, decide_eq_true_eq] at h
        refine ⟨_, .agg ((u.cells.toList.drop off).take (szOf P t)).toArray, h.2, ?_, ⟨_, rfl, (hrl.drop off).take _⟩⟩
        simp only [Instr.loadAt, Instr.sureAddr, Sem.run_bind, Sem.run_pure, Result.andThen_ok]
        exact loadVar_agg h1 h2 ha (by rw [List.length_take, List.length_drop]; omega) (fun j v hv => by
          rw [List.getElem?_take] at hv
          split at hv
          · rw [List.getElem?_drop] at hv; rw [add_pl, Nat.add_assoc]; exact hcell _ _ hv
          · cases hv)
      · rw [if_neg ha] at h
        simp only [must_iff, decide_eq_true_eq] at h
        obtain ⟨v, hv, hrv, _⟩ := hrl.get (k := off) (p := xs[i].cells.getD off (.val undef)) (by rw [List.getD_eq_getElem?_getD, List.getElem?_eq_getElem h.1]; rfl)
        refine ⟨_, v, h.2, ?_, hrv⟩
        simp only [Instr.loadAt, Instr.sureAddr, Sem.run_bind, Sem.run_pure, Result.andThen_ok]
        exact loadVar_one h1 (by simpa using ha) (hcell _ _ hv)
    · exact h.elim
  · exact h.elim

theorem fieldPlace_run {fd : Field} (h1 : szOf P fd.type ≠ 0) (h2 : (P.info? fd.type).isSome = true) (ad : Addr) (w : World) : (fieldPlace ad fd).run P w = .ok (ad.add fd.offset) w := by
  simp [fieldPlace, sizeOf_run h2, h1]

theorem fieldAddr_run {t : TypeId} {x : SV} {vx : Value} {f : Nat} {R : SV → Prop} (hx : RS χ w G x vx) (h : vcFieldAddr P t x f R) :
    ∃ s v, R s ∧ (Instr.fieldAt t vx f).run P w = .ok v w ∧ RS χ w G s v := by
  unfold vcFieldAddr at h
  split at h
  · rename_i fs hu
    split at h
    · rename_i fd hfd
      simp only [must_iff, Bool.and_eq_true, bne_iff_ne, ne_eq] at h
      obtain ⟨⟨h1, h2⟩, h⟩ := h
      have key : ∀ ad : Addr, (Instr.fieldAt t (.pointer (some ad)) f).run P w = .ok (.pointer (some (ad.add fd.offset))) w := fun ad => by
        simp [Instr.fieldAt, run_underlying hu, hfd, Instr.sureAddr, fieldPlace_run h1 h2]
      split at h
      · obtain ⟨g, hG, rfl⟩ := hx
        exact ⟨_, _, h, key _, g, hG, by rw [add_pl]⟩
      · obtain ⟨ad, us, rfl, hl, hc⟩ := hx
        exact ⟨_, _, h, key _, _, _, rfl, hl.drop _, hc.tail _⟩
      · rename_i o n sz i off
        obtain ⟨ad, rfl, m, hh, hG, hle, hx⟩ := hx
        refine ⟨_, _, h, key _, _, rfl, m, hh, hG, hle, fun hn => ?_⟩
        obtain ⟨g, l, c, e1, rfl⟩ := hx hn
        exact ⟨g, l, c, e1, by rw [add_pl, Nat.add_assoc]⟩
      · exact h.elim
    · exact h.elim
  · exact h.elim

theorem part_run {t : TypeId} {x : SV} {vx : Value} {off : Nat} {R : SV → Prop} (hx : RS χ w G x vx) (h : vcPart P t x off R) :
    ∃ cs, vx = .agg cs ∧ ∃ s v, R s ∧ (part t cs off).run P w = .ok v w ∧ RS χ w G s v := by
  unfold vcPart at h
  simp only [must_iff, Bool.and_eq_true] at h
  obtain ⟨⟨h1, h2⟩, h⟩ := h
  have hag : ∀ us : List Value, isAggT P t = true → (part t us.toArray off).run P w = .ok (.agg ((us.drop off).take (szOf P t)).toArray) w := fun us ha => by
    simp [part, isAgg_run h1, ha, sizeOf_run h2, List.take_drop, Nat.add_comm]
  have hon : ∀ (us : List Value) u, isAggT P t = false → us[off]? = some u → (part t us.toArray off).run P w = .ok u w := fun us u ha hu => by
    simp [part, isAgg_run h1, ha, hu]
  split at h
  · obtain ⟨us, rfl, hl⟩ := hx
    refine ⟨_, rfl, ?_⟩
    by_cases ha : isAggT P t = true
    · rw [if_pos ha] at h
      simp only [must_iff, decide_eq_true_eq] at h
      exact ⟨_, _, h.2, hag us ha, _, rfl, (hl.drop off).take _⟩
    · rw [if_neg ha] at h
      obtain ⟨u, hu, hr, _⟩ := hl.get (List.getElem?_eq_getElem h.1)
      exact ⟨_, u, h.2 _ (List.getElem?_eq_getElem h.1), hon us u (by simpa using ha) hu, hr⟩
  · obtain ⟨us, rfl, hl⟩ := hx
    refine ⟨_, rfl, ?_⟩
    by_cases ha : isAggT P t = true
    · rw [if_pos ha] at h
      simp only [must_iff, decide_eq_true_eq] at h
      exact ⟨_, _, h.2, hag us ha, RS_mkAgg ((hl.drop off).take _)⟩
    · rw [if_neg ha] at h
      obtain ⟨u, hu, hr, _⟩ := hl.get (List.getElem?_eq_getElem h.1)
      exact ⟨_, u, h.2 _ (List.getElem?_eq_getElem h.1), hon us u (by simpa using ha) hu, hr⟩
  · exact h.elim

theorem field_run {t : TypeId} {x : SV} {vx : Value} {f : Nat} {R : SV → Prop} (hx : RS χ w G x vx) (h : vcField P t x f R) :
    ∃ s v, R s ∧ (Instr.field t vx f).run P w = .ok v w ∧ RS χ w G s v := by
  unfold vcField at h
  split at h
  · rename_i fs hu
    split at h
    · rename_i fd hfd
      obtain ⟨cs, rfl, s, v, hR, hr, hs⟩ := part_run hx h
      exact ⟨s, v, hR, by simp [Instr.field, run_underlying hu, hfd, asAgg, hr], hs⟩
    · exact h.elim
  · exact h.elim

theorem index_run {t : TypeId} {x i : SV} {vx vi : Value} {R : SV → Prop} (hx : RS χ w G x vx) (hi : RS χ w G i vi) (h : vcIndex P t x i R) :
    ∃ s v, R s ∧ (Instr.index t vx vi).run P w = .ok v w ∧ RS χ w G s v := by
  unfold vcIndex at h
  split at h
  · rename_i k j hu
    simp only [RS_val] at hi
    subst hi
    split at h
    · rename_i s
      simp only [RS_val] at hx
      subst hx
      refine ⟨_, _, h.2, ?_, rfl⟩
      have h1 := h.1
      have hlt : j.toNat < s.size := by omega
      have e : s[j.toNat]? = some (s[j.toNat]'hlt) := by simp [hlt]
      have e2 : s.data.toList.getD j.toNat 0 = s[j.toNat]'hlt := by
        rw [List.getD_eq_getElem?_getD, List.getElem?_eq_getElem (by simpa using hlt)]
        rfl
      have e3 : byteAt s j.toNat = ((s[j.toNat]'hlt).toNat : Int) := by unfold byteAt; rw [e2]
      rw [e3]
      simp [Instr.index, asIntOf, run_underlying hu, h1.1, e]
    · exact h.elim
  · rename_i n e k j hu
    simp only [RS_val] at hi
    subst hi
    simp only [must_iff] at h
    obtain ⟨h1, h2, h3⟩ := h
    obtain ⟨cs, rfl, s, v, hR, hr, hs⟩ := part_run hx h3
    exact ⟨s, v, hR, by simp [Instr.index, asIntOf, run_underlying hu, h1, sizeOf_run h2, hr], hs⟩
  · exact h.elim

theorem RF_ones : ∀ {xs : List PV} {us : List Value}, RL χ w xs us → RF χ w 1 xs us
  | [], us, h => h
  | x :: xs, us, ⟨u, r, h1, h2, h3, h4⟩ => by
    have e : u.cells = #[u] := by cases u <;> first | rfl | simp [Value.oneCell'] at h2
    exact ⟨u, r, by rw [e]; simpa using h1, by rw [e]; rfl, by rw [e]; simpa using h2, h3, RF_ones h4⟩

theorem elems_reads {x : SV} {vx : Value} (hx : RS χ w G x vx) (hst : RSt χ w G st) {K : Nat → List PV → Prop} (h : vcElems x st K) :
    ∃ sz xs A c us, K sz xs ∧ vx = .slice A xs.length c ∧ xs.length ≤ c ∧ c ≤ maxLen ∧ RF χ w sz xs us ∧ (A = none → c = 0) ∧ (∀ k u, us[k]? = some u → ∃ ad, A = some ad ∧ w.cell? (ad.add k) = some u) := by
  have ofP : ∀ {sz nl xs vx}, RP χ w (.list sz nl xs) vx → K sz xs → ∃ sz xs A c us, K sz xs ∧ vx = .slice A xs.length c ∧ xs.length ≤ c ∧ c ≤ maxLen ∧ RF χ w sz xs us ∧ (A = none → c = 0) ∧ (∀ k u, us[k]? = some u → ∃ ad, A = some ad ∧ w.cell? (ad.add k) = some u) := by
    rintro sz nl xs vx ⟨A, c, us, h1, h2, h3, h4, h5, h6, h7⟩ hK
    exact ⟨sz, xs, A, c, us, hK, h1, h2, h3, h6, h4, fun k u hu => by obtain ⟨ad, e, _, hc⟩ := h7 k u hu; exact ⟨ad, e, hc⟩⟩
  unfold vcElems at h
  split at h
  · exact ofP hx h
  · exact ofP hx.1 h
  · rename_i o k n
    obtain ⟨g, c, hG, rfl, h1, h2⟩ := hx
    split at h
    · rename_i T m xs hob
      simp only [must_iff, decide_eq_true_eq] at h
      obtain ⟨hkn, h⟩ := h
      obtain ⟨g', us, vs, hG', hcol, hheap, hum, hl⟩ := hst o _ hob
      rw [hG] at hG'
      injection hG' with hG'
      injection hG' with hG'
      subst hG'
      have hlen := hl.length
      have e1 : ((xs.drop k).take n).length = n := by simp; omega
      refine ⟨1, _, _, c, (us.drop k).take n, h, by rw [e1], by rw [e1]; exact h1, h2, RF_ones ((hl.drop k).take n), fun h => (by cases h), fun j u hu => ⟨_, rfl, ?_⟩⟩
      rw [add_pl, World.cell?, hheap]
      rw [List.getElem?_take] at hu
      split at hu
      · rw [List.getElem?_drop] at hu
        have hj := (List.getElem?_eq_some_iff.1 hu).1
        simpa [List.getElem?_append_left hj] using hu
      · cases hu
    · exact h.elim
  · rename_i o n
    obtain ⟨_, m, hh, hG, hle, hx⟩ := hx
    split at h
    · rename_i m' e sz' nl xs' hob
      split at h
      case isFalse => exact h.elim
      rename_i hnm
      subst hnm
      obtain ⟨h', us, hG', hown, hf, hnl, hcol⟩ := hst o _ hob
      rw [hG] at hG'
      injection hG' with hG'
      injection hG' with e1 e2
      subst e1 e2
      have := hx rfl
      subst this
      obtain ⟨hl, hrest⟩ := hown
      rcases hrest with ⟨rfl, h0⟩ | ⟨g, c, cur, rfl, _, hg, hle', hm, hcs, htk⟩
      · have : us = [] := List.eq_nil_of_length_eq_zero (by rw [hl, h0, Nat.zero_mul])
        subst this
        exact ⟨_, _, none, 0, [], h, by rw [h0], by omega, Nat.zero_le _, hf, fun _ => rfl, fun k u hu => by simp at hu⟩
      · refine ⟨_, _, _, c, us, h, rfl, hle', hm, hf, fun h => by (cases h), fun k u hu => ⟨_, rfl, ?_⟩⟩
        rw [add_pl, World.cell?, hg]
        simp only [Option.isSome_none, Bool.false_eq_true, if_false, Nat.zero_add]
        rw [← htk, List.getElem?_take] at hu
        split at hu
        · simpa using hu
        · cases hu
    · rename_i m' sz' nl xs' hob
      split at h
      case isFalse => exact h.elim
      rename_i hnm
      subst hnm
      obtain ⟨h', hG', hr⟩ := hst o _ hob
      rw [hG] at hG'
      injection hG' with hG'
      injection hG' with e1 e2
      subst e1 e2
      have := hx rfl
      subst this
      exact ofP hr h
    · exact h.elim
  · exact h.elim

theorem len_run {t ty : TypeId} {x : SV} {vx : Value} {R : SV → Prop} (hx : RS χ w G x vx) (hst : RSt χ w G st) (h : vcLen P t x st R) :
    ∃ s v, R s ∧ (Builtin.len_ #[t] ty #[vx]).run P w = .ok v w ∧ RS χ w G s v := by
  unfold vcLen at h
  split at h
  · rename_i e hu
    split at h
    · obtain ⟨g, c, hG, rfl, h1, h2⟩ := hx
      exact scal h (by simp [Builtin.len_, run_underlying hu, goInt])
    · obtain ⟨sz, xs, A, c, us, hR, rfl, h1, h2, _⟩ := elems_reads hx hst h
      refine scal (hR (by simp only [maxLen] at h2; omega)) ?_
      simp [Builtin.len_, run_underlying hu, goInt]
  · rename_i hu
    split at h
    · rename_i s
      simp only [RS_val] at hx
      subst hx
      exact scal h (by simp [Builtin.len_, run_underlying hu, goInt])
    · exact h.elim
  · rename_i n e hu
    exact scal h (by simp [Builtin.len_, run_underlying hu, goInt])
  · exact h.elim

theorem indexAddr_run {t : TypeId} {x i : SV} {vx vi : Value} {R : SV → Prop} (hx : RS χ w G x vx) (hi : RS χ w G i vi) (hst : RSt χ w G st) (h : vcIndexAddr P t x i st R) :
    ∃ s v, R s ∧ (Instr.indexAt t vx vi).run P w = .ok v w ∧ RS χ w G s v := by
  unfold vcIndexAddr at h
  split at h
  · rename_i e k j hu
    simp only [RS_val] at hi
    subst hi
    have hel : P.elem t = e := by simp [Program.elem, hu]
    have key : ∀ (ad : Addr) (n c : Nat), (P.info? e).isSome = true → (0 ≤ j ∧ j < (n : Int)) → (Instr.indexAt t (.slice (some ad) n c) (.int k j)).run P w = .ok (.pointer (some (ad.add (j.toNat * szOf P e)))) w := fun ad n c h2 hj => by
      rw [run_indexAt_slice (h := by rw [hel]; exact hu), if_pos hj, hel, sizeOf_run h2]
      rfl
    have ofL : ∀ {sz nl xs vx}, RP χ w (.list sz nl xs) vx → sz = szOf P e → (P.info? e).isSome = true → (0 ≤ j ∧ j < (xs.length : Int)) → (∀ p, xs[j.toNat]? = some p → R (.ipt p.cells)) →
        ∃ s v, R s ∧ (Instr.indexAt t vx (.int k j)).run P w = .ok v w ∧ RS χ w G s v := by
      rintro sz nl xs vx ⟨A, c, us, rfl, g2, g3, g4, g5, g6, g7⟩ hs h2 hj hR
      have hlt : j.toNat < xs.length := by omega
      have hp := List.getElem?_eq_getElem hlt
      obtain ⟨u, hu1, hu2, hu3, hu4⟩ := g6.get hp
      cases A with
      | none => have := g4 rfl; omega
      | some ad =>
        refine ⟨_, _, hR _ hp, key ad _ c h2 hj, ad.add (j.toNat * szOf P e), u.cells.toList, rfl, RL_cells (RP_one hu1 hu3) hu1, ?_⟩
        intro m v hv
        have hk : m < sz := by have := (List.getElem?_eq_some_iff.1 hv).1; simp at this; omega
        obtain ⟨ad', e', hc1, hc2⟩ := g7 (j.toNat * sz + m) v (by
          have : (us.drop (j.toNat * sz))[m]? = some v := by rw [hu4, List.getElem?_append_left (by simpa [hu2] using hk)]; exact hv
          rwa [List.getElem?_drop] at this)
        injection e' with e'
        subst e'
        exact ⟨_, rfl, by rw [add_blk]; exact hc1, by rw [add_add, ← hs]; exact hc2⟩
    split at h
    · rename_i sz nl xs
      simp only [must_iff, Bool.and_eq_true, beq_iff_eq] at h
      exact ofL hx h.1.1 h.1.2 h.2.1 h.2.2
    · rename_i o n
      obtain ⟨_, m, hh, hG, hle, hx⟩ := hx
      split at h
      · rename_i m' e' sz nl xs hob
        simp only [must_iff, Bool.and_eq_true, beq_iff_eq] at h
        obtain ⟨⟨⟨hs, h2⟩, rfl⟩, hj, hR⟩ := h
        have hlt : j.toNat < xs.length := by omega
        obtain ⟨g, l, c, u, hG', hcol, _, _, _, _, hl, _⟩ := vec_elem (hst o _ hob) (List.getElem?_eq_getElem hlt)
        rw [hG] at hG'
        injection hG' with hG'
        injection hG' with e1 e2
        subst e1 e2
        have := hx rfl
        subst this
        subst hl
        refine ⟨_, _, hR, key _ _ c h2 hj, _, rfl, _, _, hG, Nat.le_refl _, fun _ => ⟨g, _, c, rfl, ?_⟩⟩
        rw [add_pl, hs]
        simp
      · rename_i m' sz nl xs hob
        simp only [must_iff, Bool.and_eq_true, beq_iff_eq] at h
        obtain ⟨⟨⟨hs, h2⟩, rfl⟩, hj, hR⟩ := h
        obtain ⟨h', hG', hr⟩ := hst o _ hob
        rw [hG] at hG'
        injection hG' with hG'
        injection hG' with e1 e2
        subst e1 e2
        have := hx rfl
        subst this
        exact ofL hr hs h2 hj hR
      · exact h.elim
    · rename_i o k n
      obtain ⟨g, c, hG, rfl, hc1, hc2⟩ := hx
      simp only [must_iff, Bool.and_eq_true, beq_iff_eq] at h
      obtain ⟨⟨hs, h2⟩, hj, hR⟩ := h
      refine ⟨_, _, hR, key _ _ c h2 hj, g, hG, ?_⟩
      rw [add_pl, hs, Nat.mul_one]
    · exact h.elim
  · rename_i n e k j hu
    simp only [RS_val] at hi
    subst hi
    simp only [must_iff] at h
    obtain ⟨h2, hj, h⟩ := h
    have key : ∀ (ad : Addr), (Instr.indexAt t (.pointer (some ad)) (.int k j)).run P w = .ok (.pointer (some (ad.add (j.toNat * szOf P e)))) w := fun ad => by
      have hl : P.arrayLen t = n := by simp [Program.arrayLen, hu]
      have he : P.elem t = e := by simp [Program.elem, hu]
      rw [run_indexAt_array (h := by rw [hl, he]; exact hu), hl, if_pos hj, he, sizeOf_run h2]
      rfl
    split at h
    · obtain ⟨g, hG, rfl⟩ := hx
      exact ⟨_, _, h, key _, g, hG, by rw [add_pl]⟩
    · obtain ⟨ad, us, rfl, hl, hc⟩ := hx
      refine ⟨_, _, h, key _, _, _, rfl, hl.drop _, hc.tail _⟩
    · rename_i o m sz i off
      obtain ⟨ad, rfl, m', hh, hG, hle, hx⟩ := hx
      refine ⟨_, _, h, key _, _, rfl, m', hh, hG, hle, fun hn => ?_⟩
      obtain ⟨g, l, c, e1, rfl⟩ := hx hn
      exact ⟨g, l, c, e1, by rw [add_pl, Nat.add_assoc]⟩
    · exact h.elim
  · exact h.elim

theorem RF_u8 {sz : Nat} : ∀ {l : List Int} {us : List Value}, RF χ w sz (l.map fun n => .val (.int .u8 n)) us → us = l.map (Value.int .u8)
  | [], us, h => by simpa [RF] using h
  | n :: l, us, ⟨u, r, h1, h2, h3, h4, h5⟩ => by
    have h4 : u = .int .u8 n := h4
    subst h4 h1
    rw [RF_u8 h5]
    rfl

/-- The conversions that make no memory. -/
theorem conv_run {s d : TypeId} {x : SV} {vx : Value} {R : SV → Prop} (hx : RS χ w G x vx) (hst : RSt χ w G st) (hnb : ∀ a e, ¬ (x = vS a ∧ P.underlying d = some (.slice e))) (h : vcConv P s d x st R) :
    ∃ s' v, R s' ∧ (convert s d vx).run P w = .ok v w ∧ RS χ w G s' v := by
  unfold vcConv at h
  split at h
  · simp only [RS_val] at hx
    subst hx
    split at h
    · rename_i h1 h2
      exact scal h (by simp [convert, run_underlying h1, run_underlying h2, Conv.intToInt])
    · exact h.elim
  · simp only [RS_val] at hx
    subst hx
    split at h
    · rename_i h1 h2
      exact scal h (by simp [convert, run_underlying h1, run_underlying h2])
    · rename_i h1 h2
      exact absurd ⟨rfl, h2⟩ (hnb _ _)
    · exact h.elim
  · split at h
    · rename_i e h1 h2
      simp only [must_iff] at h
      obtain ⟨he, h⟩ := h
      have he : P.underlying e = some (.int .u8) := by unfold isU8 at he; split at he <;> simp_all
      obtain ⟨sz, xs, A, c, us, ⟨⟨l, hl⟩, hR⟩, rfl, g1, g2, g3, g4, g5⟩ := elems_reads hx hst h
      subst hl
      have hu := RF_u8 g3
      subst hu
      refine scal (hR l rfl) ?_
      cases A with
      | none => 
        have := g4 rfl
        subst this
        have : l = [] := by simpa using g1
        subst this
        exact run_convert_bytes_nil w s e h1 he _ _ d h2
      | some ad =>
        rw [run_convert_bytes_string w s d e _ _ c h1 he h2, run_bytesToString w ad _ c l, foldl_push_bytes]
        · simp [strOfNums, ByteArray.empty, ByteArray.emptyWithCapacity]; rfl
        · have := run_loadCells_list (P := P) w ad (l.map (Value.int .u8)) (fun j v hj => by
            obtain ⟨ad', e', hc⟩ := g5 j v hj
            injection e' with e'
            subst e'
            exact hc)
          simpa using this
    · exact h.elim

end
end Go.Sy
