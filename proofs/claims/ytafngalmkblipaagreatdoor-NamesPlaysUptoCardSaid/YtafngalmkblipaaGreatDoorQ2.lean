/- Part 2 of 8: the walks and laws on which the last part rests. No conditions. -/
import Derived.Test.YtafngalmkblipaaGreatDoorQ1
import Derived.Laws.StructEq
import Derived.ChangeKeysEq
import Derived.Maps.RangeRun
import Derived.Deep.LoopGhost
/- The walk's operations are what the model does: stores, parts built, all operations. -/
set_option linter.all false
set_option maxHeartbeats 4000000
namespace Go.Sy
open Go.RowKit

theorem setAt_eq {α : Type} : ∀ (vs us : List α) (k : Nat), k + vs.length ≤ us.length → setAt us k vs = us.take k ++ vs ++ us.drop (k + vs.length)
  | [], us, k, h => by simp [setAt]
  | v :: vs, us, k, h => by
    simp only [List.length_cons] at h
    rw [setAt, setAt_eq vs (us.set k v) (k + 1) (by simp; omega)]
    have h1 : (us.set k v).take (k + 1) = us.take k ++ [v] := by
      rw [List.take_set, List.take_succ_eq_append_getElem (by omega), List.set_append, if_neg (by simp; omega)]
      simp [show k - min k us.length = 0 by omega]
    have h2 : (us.set k v).drop (k + 1 + vs.length) = us.drop (k + (vs.length + 1)) := by
      rw [List.drop_set, if_pos (by omega)]
      congr 1; omega
    rw [h1, h2]
    simp

theorem RSL_unpures {χ : Nat → Color} {w : World} {G : Gh} : ∀ {cs : List SV} {ps : List PV} {us : List Value}, pures cs = some ps → RSL χ w G cs us → RL χ w ps us
  | [], ps, us, h, hl => by simp [pures] at h; subst h; exact hl
  | c :: cs, ps, us, h, hl => by
    cases c with
    | pure p =>
      simp only [pures, Option.map_eq_some_iff] at h
      obtain ⟨ps', h1, rfl⟩ := h
      obtain ⟨u, r, rfl, h2, h3, h4⟩ := hl
      exact ⟨u, r, rfl, h2, h3, RSL_unpures h1 h4⟩
    | _ => simp [pures] at h

theorem setAt_len {α : Type} : ∀ (vs l : List α) (k : Nat), (setAt l k vs).length = l.length
  | [], l, k => rfl
  | x :: r, l, k => by unfold setAt; rw [setAt_len r, List.length_set]

theorem setAt_append {α : Type} {l r : List α} : ∀ {k : Nat} (cs : List α), k + cs.length ≤ l.length → setAt (l ++ r) k cs = setAt l k cs ++ r := by
  intro k cs
  induction cs generalizing l k with
  | nil => intro _; rfl
  | cons c cs ih =>
    intro h
    simp only [List.length_cons] at h
    unfold setAt
    rw [List.set_append_left _ _ (by omega), ih (by simp; omega)]
theorem row_store {α : Type} {cur us A U B C V : List α} {k off n sz : Nat} (hA : A.length = k) (hn : us.length = n) (hU : U.length = sz) (hv : off + V.length ≤ sz)
    (e5 : cur = us ++ C) (e6 : us = A ++ (U ++ B)) (hk : k + off + V.length ≤ cur.length) : ((setAt cur (k + off) V).toArray.toList).take n = A ++ setAt U off V ++ B := by
  rw [List.toList_toArray, setAt_eq _ _ _ hk, setAt_eq _ _ _ (by omega)]
  have h1 : cur.take (k + off) = A ++ U.take off := by
    rw [e5, e6, List.append_assoc, List.take_append, hA, List.take_of_length_le (by omega), show k + off - k = off by omega, List.append_assoc, List.take_append, hU, show off - sz = 0 by omega]
    simp
  have h2 : cur.drop (k + off + V.length) = U.drop (off + V.length) ++ (B ++ C) := by
    rw [e5, e6, List.append_assoc, List.drop_append, hA, List.drop_of_length_le (by omega), show k + off + V.length - k = off + V.length by omega, List.append_assoc, List.drop_append, hU, show off + V.length - sz = 0 by omega]
    simp
  rw [h1, h2]
  have h3 : (A ++ U.take off ++ V ++ (U.drop (off + V.length) ++ (B ++ C))) = (A ++ (U.take off ++ V ++ U.drop (off + V.length)) ++ B) ++ C := by simp [List.append_assoc]
  rw [h3, List.take_append]
  have h4 : (A ++ (U.take off ++ V ++ U.drop (off + V.length)) ++ B).length = n := by
    have : us.length = A.length + (U.length + B.length) := by rw [e6]; simp
    simp
    omega
  rw [List.take_of_length_le (by omega), h4, Nat.sub_self]
  simp

section
variable {P : Program} {E : Ent} {χ : Nat → Color} {G : Gh} {env : List SV} {st : List Ob} {a : Act} {w : World}

theorem storeAt_run {t : TypeId} {g k : Nat} {T : TypeId} {cur : Array Value} {v : Value} (h2 : (P.info? t).isSome = true) (hg : w.heap[g]? = some (.cells cur T (0, 0))) (hs : v.cells.size = szOf P t) (hk : k + szOf P t ≤ cur.size)
    (ho : ∀ y ∈ v.cells.toList, y.oneCell' = true) :
    (Instr.storeAt t (.pointer (some ⟨g, k, none⟩)) v).run P w = .ok () (w.setRow g (setAt cur.toList k v.cells.toList).toArray) := by
  have hl : v.cells.toList.length = szOf P t := by simpa using hs
  have := run_storeCells_at (P := P) g k T v.cells.toList 0 cur w hg (by omega) ho
  rw [setAt_eq _ _ _ (by simp; omega)]
  simp only [Instr.storeAt, Instr.sureAddr, Sem.run_bind, Sem.run_pure, Result.andThen_ok, storeVar, sizeOf_run h2, hs]
  simpa using this

theorem setRow_at (w : World) (g : Nat) (cs cur : Array Value) (T : TypeId) (fr : Nat × Nat) (hg : w.heap[g]? = some (.cells cur T fr)) : (w.setRow g cs).heap[g]? = some (.cells cs T fr) := by
  simp [World.setRow, Array.getElem?_modify, hg]
theorem setRow_ne (w : World) (g b : Nat) (cs : Array Value) (h : b ≠ g) : (w.setRow g cs).heap[b]? = w.heap[b]? := by
  simp [World.setRow, Array.getElem?_modify, Ne.symm h]

theorem store_ok {t : TypeId} {x y : SV} {vx vy : Value} {R : Res} (hf : Fits E χ G ⟨env, st⟩ a w) (hx : RS χ w G x vx) (hy : RS χ w G y vy) (h : vcStore P t x y st R) :
    ∃ s st' w', R s st' ∧ (Instr.storeAt t vx vy).run P w = .ok () w' ∧ Rel2 E ⟨env, st'⟩ a w' s undef := by
  unfold vcStore at h
  simp only [must_iff, Bool.and_eq_true] at h
  obtain ⟨⟨h1, h2⟩, h⟩ := h
  split at h
  · rename_i o k
    obtain ⟨g, hG, rfl⟩ := hx
    split at h
    · rename_i T cs hob
      simp only [beq_iff_eq, decide_eq_true_eq] at h
      obtain ⟨⟨⟨ho, hs⟩, hk⟩, hR⟩ := h
      obtain ⟨g', us, hG', hcol, hheap, hl⟩ := hf.2.1 o _ hob
      rw [hG] at hG'
      injection hG' with hG'
      injection hG' with hG'
      subst hG'
      have hcl := RSL_cells ho hy
      have hlen := hl.length
      have hvs : vy.cells.size = szOf P t := by rw [← hs, ← hcl.length]; simp
      have hrun := storeAt_run (k := k) h2 hheap hvs (by simp; omega) hcl.one
      have hlt : o < st.length := (List.getElem?_eq_some_iff.1 hob).1
      have hbl : ∀ b, b < w.heap.size → χ b ≠ .own o → (w.setRow g (setAt us k vy.cells.toList).toArray).heap[b]? = w.heap[b]? := fun b hb hne => setRow_ne _ _ _ _ (fun e => hne (by rw [e]; exact hcol))
      have hk' : Keep χ w χ (w.setRow g (setAt us k vy.cells.toList).toArray) := fun b hb hi => ⟨hi, hbl b hb (by rw [hi]; simp)⟩
      refine ⟨_, _, _, hR, hrun, (hf.set (w' := w.setRow g (setAt us k vy.cells.toList).toArray) (χ' := χ) (G' := G) hlt rfl rfl rfl (by simp) (fun b hb hne => ⟨rfl, hbl b hb hne⟩) (fun _ _ => rfl) ⟨fun g hg => hg, fun n hd hh => ⟨n, hd, hh, Nat.le_refl _, fun _ => rfl⟩⟩ ?_).two trivial⟩
      exact ⟨g, _, hG, hcol, setRow_at w g _ _ T _ hheap, RSL.setAt (RSL.mono hk' (GGo.refl G) _ _ hcl) k (RSL.mono hk' (GGo.refl G) _ _ hl)⟩
    · rename_i T m xs hob
      unfold vcPure at h
      simp only at h
      split at h
      · rename_i q
        simp only [must_iff, Bool.and_eq_true, beq_iff_eq] at h
        obtain ⟨⟨ho, hs⟩, hk, hR⟩ := h
        obtain ⟨g', us, vs, hG', hcol, hheap, hum, hl⟩ := hf.2.1 o _ hob
        rw [hG] at hG'
        injection hG' with hG'
        injection hG' with hG'
        subst hG'
        have hcl := RL_cells ho hy
        have hlen := hl.length
        have hvs : vy.cells.size = szOf P t := by rw [← hs, ← hcl.length]; simp
        have hrun := storeAt_run (k := k) h2 hheap hvs (by simp; omega) hcl.one
        have hap : setAt (us ++ vs) k vy.cells.toList = setAt us k vy.cells.toList ++ vs := setAt_append _ (by rw [show vy.cells.toList.length = szOf P t by simpa using hvs]; omega)
        have hlt : o < st.length := (List.getElem?_eq_some_iff.1 hob).1
        rw [hap] at hrun
        have hbl : ∀ b, b < w.heap.size → χ b ≠ .own o → (w.setRow g (setAt us k vy.cells.toList ++ vs).toArray).heap[b]? = w.heap[b]? := fun b hb hne => setRow_ne _ _ _ _ (fun e => hne (by rw [e]; exact hcol))
        have hk' : Keep χ w χ (w.setRow g (setAt us k vy.cells.toList ++ vs).toArray) := fun b hb hi => ⟨hi, hbl b hb (by rw [hi]; simp)⟩
        refine ⟨_, _, _, hR, hrun, (hf.set (w' := w.setRow g (setAt us k vy.cells.toList ++ vs).toArray) (χ' := χ) (G' := G) hlt rfl rfl rfl (by simp) (fun b hb hne => ⟨rfl, hbl b hb hne⟩) (fun _ _ => rfl) ⟨fun g hg => hg, fun n hd hh => ⟨n, hd, hh, Nat.le_refl _, fun _ => rfl⟩⟩ ?_).two trivial⟩
        exact ⟨g, _, vs, hG, hcol, setRow_at w g _ _ T _ hheap, by rw [setAt_len]; exact hum, RL.setAt (RL.mono hk' _ _ hcl) k (RL.mono hk' _ _ hl)⟩
      · exact h.elim
    · exact h.elim
  · rename_i o n sz i off
    obtain ⟨χ', q, st', h, hf', him, hq⟩ := pure_ok hf hy h
    obtain ⟨ad, rfl, m, hd, hG, hle, hx⟩ := hx
    split at h
    · rename_i m' e sz' nl xs hob
      simp only [beq_iff_eq] at h
      obtain ⟨⟨⟨⟨ho, rfl⟩, hs⟩, hnm⟩, hi, h⟩ := h
      have hp : xs[i]? = some xs[i] := List.getElem?_eq_getElem hi
      have h := h _ hp
      simp only [decide_eq_true_eq] at h
      obtain ⟨hk, hR⟩ := h
      obtain ⟨g, l, c, u, hG', hcol, hr, husz, hone, hcell, hl, cur, hheap, hxc, hcm, hcs, us, hrf, htk, hdrop, hnl⟩ := vec_elem (hf'.2.1 o _ hob) hp
      rw [hG] at hG'
      injection hG' with hG'
      injection hG' with e1 e2
      subst e1 e2 hl
      obtain ⟨g', l', c', e3, rfl⟩ := hx hnm
      injection e3 with e3 _ _
      injection e3 with e3
      injection e3 with e3
      subst e3
      have hpl := hr.cells_len
      have hcl := RL_cells ho hq
      have hvs : vy.cells.size = szOf P t := by rw [← hs, ← hcl.length]; simp
      have hin : (i + 1) * sz ≤ xs.length * sz := Nat.mul_le_mul_right _ (by omega)
      have hin' : (i + 1) * sz = i * sz + sz := by rw [Nat.add_mul, Nat.one_mul]
      have hxc' : xs.length * sz ≤ c * sz := Nat.mul_le_mul_right _ hxc
      have hrun := storeAt_run (k := i * sz + off) h2 hheap hvs (by omega) hcl.one
      have hlt : o < st'.length := (List.getElem?_eq_some_iff.1 hob).1
      have hbl : ∀ b, b < w.heap.size → χ' b ≠ .own o → (w.setRow g (setAt cur.toList (i * sz + off) vy.cells.toList).toArray).heap[b]? = w.heap[b]? := fun b hb hne => setRow_ne _ _ _ _ (fun e => hne (by rw [e]; exact hcol))
      have hk' : Keep χ' w χ' (w.setRow g (setAt cur.toList (i * sz + off) vy.cells.toList).toArray) := fun b hb hi => ⟨hi, hbl b hb (by rw [hi]; simp)⟩
      refine ⟨_, _, _, hR, hrun, (hf'.set (w' := w.setRow g (setAt cur.toList (i * sz + off) vy.cells.toList).toArray) (χ' := χ') (G' := G) hlt rfl rfl rfl (by simp) (fun b hb hne => ⟨rfl, hbl b hb hne⟩) (fun _ _ => rfl) ⟨fun g hg => hg, fun n hd hh => ⟨n, hd, hh, Nat.le_refl _, fun _ => rfl⟩⟩ ?_).two trivial⟩
      -- the element, written
      have hvl : vy.cells.toList.length = szOf P t := by simpa using hvs
      have hul : u.cells.toList.length = sz := by simpa using husz
      have hnew : ∃ u' : Value, RP χ' w ((xs[i]).setCells off q.cells) u' ∧ u'.cells.toList = setAt u.cells.toList off vy.cells.toList := by
        generalize xs[i] = p at *
        have single : (∀ ps, p ≠ .agg ps) → (∀ a, p ≠ .val (.agg a)) → p.setCells off q.cells = q.cells.getD 0 p ∧ p.cells.length = 1 ∧ u.cells = #[u] := by
          intro n1 n2
          cases p with
          | agg ps => exact absurd rfl (n1 ps)
          | val v =>
            have : u = v := hr
            subst this
            cases u <;> first | exact absurd rfl (n2 _) | exact ⟨rfl, rfl, rfl⟩
          | list sz nl ys =>
            obtain ⟨A, c, _, rfl, _⟩ := hr
            exact ⟨rfl, rfl, rfl⟩
        by_cases c1 : ∃ ps, p = .agg ps
        · obtain ⟨ps, rfl⟩ := c1
          obtain ⟨uu, rfl, hrl⟩ := hr
          refine ⟨.agg (setAt uu off vy.cells.toList).toArray, ⟨_, rfl, RL.setAt hcl off hrl⟩, by simp [Value.cells]⟩
        · by_cases c2 : ∃ a, p = .val (.agg a)
          · obtain ⟨aa, rfl⟩ := c2
            have : u = .agg aa := hr
            subst this
            refine ⟨.agg (setAt aa.toList off vy.cells.toList).toArray, ⟨_, rfl, RL.setAt hcl off (RL_vals aa.toList ?_)⟩, by simp [Value.cells]⟩
            rw [List.all_eq_true]
            intro y hy
            exact hone y (by simpa [Value.cells] using hy)
          · obtain ⟨s1, s2, s3⟩ := single (fun ps e => c1 ⟨ps, e⟩) (fun a e => c2 ⟨a, e⟩)
            rw [s1]
            rw [s2] at hk
            -- one cell, or none
            cases hqc : q.cells with
            | nil =>
              rw [hqc] at hcl
              have : vy.cells.toList = [] := by simpa [RL] using hcl
              refine ⟨u, by simpa using hr, ?_⟩
              rw [this]; rfl
            | cons q0 qs =>
              rw [hqc] at hcl hs
              obtain ⟨y0, r, hy0, _, hy1, hy2⟩ := hcl
              simp only [List.length_cons] at hs
              have hqs : qs = [] := List.eq_nil_of_length_eq_zero (by omega)
              subst hqs
              have hr0 : r = [] := by simpa [RL] using hy2
              subst hr0
              have hoff : off = 0 := by omega
              subst hoff
              refine ⟨y0, by simpa using hy1, ?_⟩
              rw [s3, hy0]
              have hy0c : y0.cells.toList = [y0] := by
                have : y0.oneCell' = true := by assumption
                cases y0 <;> simp_all [Value.cells, Value.oneCell']
              rw [hy0c]
              rfl
      obtain ⟨u', hu1, hu2⟩ := hnew
      have hsl : setAt u.cells.toList off vy.cells.toList = u.cells.toList.take off ++ vy.cells.toList ++ u.cells.toList.drop (off + vy.cells.toList.length) := setAt_eq _ _ _ (by omega)
      have hu3 : u'.cells.size = sz := by
        have : u'.cells.toList.length = sz := by rw [hu2, hsl]; simp; omega
        simpa using this
      have hu4 : ∀ y ∈ u'.cells.toList, y.oneCell' = true := by
        rw [hu2, hsl]
        intro y hy
        rcases List.mem_append.1 hy with hy | hy
        · rcases List.mem_append.1 hy with hy | hy
          · exact hone y (List.mem_of_mem_take hy)
          · exact hcl.one y hy
        · exact hone y (List.mem_of_mem_drop hy)
      have hset := hrf.set i hu1 hu3 hu4 hi
      refine ⟨_, _, hG, ⟨?_, .inr ⟨g, c, _, by rw [List.length_set], Nat.zero_le _, setRow_at w g _ _ e _ hheap, by simpa using hxc, hcm, ?_, ?_⟩⟩, RF.mono hk' _ _ _ hset, ?_, fun g' hg' => ?_⟩
      · rw [hset.len]
      · rw [setAt_eq _ _ _ (by simp; omega)]; simp; omega
      · -- the row's cells
        have hus : us.length = xs.length * sz := hrf.len
        have e5 : cur.toList = us ++ cur.toList.drop (xs.length * sz) := by rw [← htk]; simp
        have e6 : us = us.take (i * sz) ++ (u.cells.toList ++ us.drop (i * sz + sz)) := by rw [← hdrop]; simp
        have hA : (us.take (i * sz)).length = i * sz := by simp; omega
        rw [List.length_set, hu2]
        have hcl' : cur.toList.length = c * sz := by rw [Array.length_toList, hcs]
        exact row_store hA hus hul (by omega) e5 e6 (by omega)
      · rw [hnl]; simp
      · simp [Value.ownBlock] at hg'; subst hg'; exact hcol
    · exact h.elim
  · exact h.elim

theorem foldl_setAt (off : Nat) : ∀ (vs : List Value) (n : Nat) (cells : Array Value),
    ((vs.zipIdx n).foldl (fun cs (x : Value × Nat) => cs.setIfInBounds (off + x.2) x.1) cells).toList = setAt cells.toList (off + n) vs
  | [], n, cells => rfl
  | v :: vs, n, cells => by
    rw [List.zipIdx_cons, List.foldl_cons, foldl_setAt off vs (n + 1), setAt]
    simp [Nat.add_assoc]

theorem setMid_eq {l : List SV} {k : Nat} {xs : List SV} (h : k + xs.length ≤ l.length) : setMid l k xs = setAt l k xs := by
  unfold setMid
  split
  · rfl
  · rw [setAt_eq _ _ _ h, List.append_assoc]

theorem vfill_ok {place : Nat → Option (Nat × Nat)} {ρ : Nat × Operand → SV} : ∀ (l : List (Nat × Operand)) {cs : List SV} {us : List Value} {cs' : List SV}, (∀ x ∈ l, RS χ w G (ρ x) (a.eval x.2)) → RSL χ w G cs us →
    vfill place cs (l.map fun x => (x.1, ρ x)) = some cs' → ∃ us', Instr.fill place us.toArray (l.map fun x => (x.1, a.eval x.2)) = some (List.toArray us') ∧ RSL χ w G cs' us'
  | [], cs, us, cs', hρ, hl, h => by
    simp [vfill] at h
    subst h
    exact ⟨us, rfl, hl⟩
  | x :: l, cs, us, cs', hρ, hl, h => by
    simp only [List.map_cons, vfill] at h
    split at h
    · cases h
    · rename_i off size hp
      split at h
      · rename_i hc
        simp only [Bool.and_eq_true, beq_iff_eq, decide_eq_true_eq] at hc
        obtain ⟨⟨h1, h2⟩, h3⟩ := hc
        have hx := RSL_cells h1 (hρ x (by simp))
        have hlen := hx.length
        have hul := hl.length
        have hsz : (a.eval x.2).cells.size = size := by rw [← h2, ← hlen]; simp
        rw [show setMid cs off (ρ x).cells = setAt cs off (ρ x).cells from setMid_eq (by rw [h2]; exact h3)] at h
        obtain ⟨us', g1, g2⟩ := vfill_ok l (fun y hy => hρ y (by simp [hy])) (RSL.setAt hx off hl) h
        refine ⟨us', ?_, g2⟩
        simp only [List.map_cons]
        unfold Instr.fill
        simp only [hp]
        rw [if_neg (by simp [hsz]; omega)]
        rw [← g1]
        congr 1
        apply Array.toList_inj.1
        have := foldl_setAt off (a.eval x.2).cells.toList 0 us.toArray
        simp only [Nat.add_zero] at this
        rw [← Array.foldl_toList, Array.toList_zipIdx]
        simpa using this
      · cases h

theorem build_ok {t : TypeId} {parts : Array (Nat × Operand)} {ρ : Operand → SV} {R : SV → Prop} (hρ : ∀ x, RS χ w G (ρ x) (a.eval x)) (h : vcBuild P t (parts.toList.map fun (i, x) => (i, ρ x)) R) :
    ∃ s v, R s ∧ (Instr.build t (parts.map fun (i, x) => (i, a.eval x))).run P w = .ok v w ∧ RS χ w G s v := by
  have fin : ∀ {z : Value} {place : Nat → Option (Nat × Nat)} {N : Nat → SV → SV} {cs' : List SV}, (z.cells.toList.all fun u => u.oneCell') = true → (∀ i s v, RS χ w G s v → RS χ w G (N i s) v) →
      vfill place (zeroCells z) ((parts.toList.map fun (i, x) => (i, ρ x)).map fun (i, v) => (i, N i v)) = some cs' →
      ∃ us', Instr.fill place z.cells (parts.map fun (i, x) => (i, a.eval x)).toList = some (List.toArray us') ∧ RSL χ w G cs' us' := by
    intro z place N cs' hz hN hv
    have hz0 : RSL χ w G (zeroCells z) z.cells.toList := RSL_ofV1 _ (by simpa using hz)
    have e1 : ((parts.toList.map fun (i, x) => (i, ρ x)).map fun (i, v) => (i, N i v)) = parts.toList.map fun x => (x.1, N x.1 (ρ x.2)) := by simp [List.map_map, Function.comp_def]
    rw [e1] at hv
    obtain ⟨us', g1, g2⟩ := vfill_ok (χ := χ) (w := w) (G := G) (a := a) (ρ := fun x => N x.1 (ρ x.2)) parts.toList (fun x _ => hN _ _ _ (hρ _)) hz0 hv
    exact ⟨us', by simpa using g1, g2⟩
  unfold vcBuild at h
  split at h
  · rename_i it n e hit hu
    split at h
    · rename_i z ie hz hie
      simp only [must_iff] at h
      obtain ⟨hz1, h⟩ := h
      split at h
      · rename_i cs hv
        obtain ⟨us', g1, g2⟩ := fin (N := fun _ v => nilAt P e v) hz1 (fun _ _ _ h => RS_nilAt h) hv
        exact ⟨_, _, h, run_build w t _ _ (by unfold Program.built; rw [hit, hu]; simp only [hz, hie]; exact g1), RS_mkAgg g2⟩
      · exact h.elim
    · exact h.elim
  · rename_i it fields hit hu
    split at h
    · rename_i z places hz hp
      simp only [must_iff] at h
      obtain ⟨hz1, h⟩ := h
      split at h
      · rename_i cs hv
        obtain ⟨us', g1, g2⟩ := fin (N := fun i v => match fields[i]? with | some f => nilAt P f.type v | none => v) hz1 (fun i _ _ h => by
          split
          · exact RS_nilAt h
          · exact h) hv
        exact ⟨_, _, h, run_build w t _ _ (by unfold Program.built; rw [hit, hu]; simp only [hz, hp]; exact g1), RS_mkAgg g2⟩
      · exact h.elim
    · exact h.elim
  · exact h.elim

theorem bound_run {x : SV} {vx : Value} {k : IntKind} {i : Int} (hx : RS χ w G (vI k i) vx) {y : Nat} (hi : 0 ≤ i ∧ i ≤ (y : Int)) (code : BoundsCode) : (Instr.sliceBound vx y code).run P w = .ok i.toNat w := by
  have : vx = .int k i := hx
  subst this
  simp [Instr.sliceBound, asIntOf, hi]

theorem slice_ok {qt : Bool} {t : TypeId} {x : SV} {vx : Value} {lo hi : Option Operand} {ρ : Operand → SV} {R : Res} (hρ : ∀ {χ : Nat → Color} {st : List Ob}, Fits E χ G ⟨env, st⟩ a w → ∀ x, RS χ w G (ρ x) (a.eval x))
    (hf : Fits E χ G ⟨env, st⟩ a w) (hx : RS χ w G x vx) (h : vcSlice P qt t x (lo.map ρ) (hi.map ρ) st R) :
    ∃ s v st', R s st' ∧ (Instr.sliceAt t vx (lo.map a.eval) (hi.map a.eval) none).run P w = .ok v w ∧ Rel2 E ⟨env, st'⟩ a w s v := by
  -- the bounds
  have bnds : ∀ {χ' : Nat → Color} {n c : Nat} {K : Nat → Nat → Prop} (isS : Bool), (∀ x, RS χ' w G (ρ x) (a.eval x)) → n ≤ c → vcBounds n (lo.map ρ) (hi.map ρ) K →
      ∃ l h, K l h ∧ l ≤ h ∧ h ≤ n ∧ (Instr.sliceBounds isS n c (lo.map a.eval) (hi.map a.eval) none).run P w = .ok (l, h, c) w := by
    intro χ' n c K isS hr hnc hb
    have hhi : ∃ h : Nat, h ≤ n ∧ ((∃ x, hi = some x ∧ ∃ k i, ρ x = vI k i ∧ (0 ≤ i ∧ i ≤ (n : Int)) ∧ h = i.toNat) ∨ (hi = none ∧ h = n)) ∧ vcLow h (lo.map ρ) K := by
      unfold vcBounds at hb
      cases hi with
      | none => exact ⟨n, Nat.le_refl _, .inr ⟨rfl, rfl⟩, hb⟩
      | some y =>
        simp only [Option.map_some] at hb
        split at hb
        · rename_i k i he
          exact ⟨i.toNat, by omega, .inl ⟨y, rfl, k, i, by simpa using he, hb.1, rfl⟩, hb.2⟩
        · exact hb.elim
        · rename_i hh; cases hh
    obtain ⟨h, hhn, hcase, hlo⟩ := hhi
    have hlo' : ∃ l : Nat, l ≤ h ∧ K l h ∧ ((∃ x, lo = some x ∧ ∃ k i, ρ x = vI k i ∧ (0 ≤ i ∧ i ≤ (h : Int)) ∧ l = i.toNat) ∨ (lo = none ∧ l = 0)) := by
      unfold vcLow at hlo
      cases lo with
      | none => exact ⟨0, Nat.zero_le _, hlo, .inr ⟨rfl, rfl⟩⟩
      | some y =>
        simp only [Option.map_some] at hlo
        split at hlo
        · rename_i k i he
          exact ⟨i.toNat, by omega, hlo.2, .inl ⟨y, rfl, k, i, by simpa using he, hlo.1, rfl⟩⟩
        · exact hlo.elim
        · rename_i hh; cases hh
    obtain ⟨l, hlh, hK, hcase2⟩ := hlo'
    refine ⟨l, h, hK, hlh, hhn, ?_⟩
    have hb2 : ∀ {x : Operand} {k i} {y : Nat} (code : BoundsCode), ρ x = vI k i → (0 ≤ i ∧ i ≤ (y : Int)) → (Instr.sliceBound (a.eval x) y code).run P w = .ok i.toNat w := fun {x k i y} code e hi => bound_run (χ := χ') (G := G) (x := .dead) (k := k) (by rw [← e]; exact hr x) hi code
    rcases hcase with ⟨y, rfl, k, i, e1, e2, rfl⟩ | ⟨rfl, rfl⟩
    · have r1 := fun code => hb2 (y := c) code e1 ⟨e2.1, by omega⟩
      rcases hcase2 with ⟨y', rfl, k', i', e1', e2', rfl⟩ | ⟨rfl, rfl⟩
      · have r2 := fun code => hb2 (y := i.toNat) code e1' e2'
        simp [Instr.sliceBounds, r1, r2]
      · simp [Instr.sliceBounds, r1]
    · rcases hcase2 with ⟨y', rfl, k', i', e1', e2', rfl⟩ | ⟨rfl, rfl⟩
      · have r2 := fun code => hb2 code e1' e2'
        simp [Instr.sliceBounds, r2]
      · simp [Instr.sliceBounds]
  unfold vcSlice at h
  split at h
  · rename_i s hu
    simp only [RS_val] at hx
    subst hx
    obtain ⟨l, h', hR, hlh, hhn, hrun⟩ := bnds false (hρ hf) (Nat.le_refl _) h
    exact ⟨_, _, _, hR, by simp [Instr.sliceAt, Instr.slice, run_underlying hu, hrun], hf.two rfl⟩
  · rename_i e o k n hu
    simp only [must_iff, Bool.and_eq_true, beq_iff_eq] at h
    obtain ⟨⟨hs, h2⟩, h⟩ := h
    obtain ⟨g, c, hG, rfl, hc1, hc2⟩ := hx
    obtain ⟨l, h', ⟨hln, hR⟩, hlh, hhn, hrun⟩ := bnds true (hρ hf) hc1 h
    have hne : ¬ c = l := by omega
    refine ⟨_, .slice (some ⟨g, k + l, none⟩) (h' - l) (c - l), _, hR, ?_, hf.two ⟨g, c - l, hG, rfl, by omega, by omega⟩⟩
    simp [Instr.sliceAt, Instr.slice, run_underlying hu, hrun, sizeOf_run h2, hs, hne, add_pl]
  · rename_i e hu hnos
    simp only [must_iff] at h
    obtain ⟨hi2, h⟩ := h
    obtain ⟨χ', p, st', h, hf', him, hp⟩ := pure_ok hf hx h
    split at h
    · rename_i sz nl xs
      simp only [must_iff, beq_iff_eq] at h
      obtain ⟨hsz, h⟩ := h
      obtain ⟨A, c, us, rfl, g2, g3, g4, g5, g6, g7⟩ := hp
      obtain ⟨l, h', hR, hlh, hhn, hrun⟩ := bnds true (hρ hf') g2 h
      refine ⟨_, .slice (if c = l then A else A.map (·.add (l * szOf P e))) (h' - l) (c - l), _, hR, by simp [Instr.sliceAt, Instr.slice, run_underlying hu, hrun, sizeOf_run hi2], hf'.two ?_⟩
      have hlen : ((xs.drop l).take (h' - l)).length = h' - l := by simp; omega
      refine ⟨_, _, (us.drop (l * sz)).take ((h' - l) * sz), by rw [hlen], by rw [hlen]; omega, by omega, fun hA => ?_, ?_, (g6.drop l).take _, ?_⟩
      · split at hA
        · rename_i e; omega
        · rw [Option.map_eq_none_iff] at hA; have := g4 hA; omega
      · rw [g5]
        split
        · exact Iff.rfl
        · rw [Option.map_eq_none_iff]
      · intro k u hku
        rw [List.getElem?_take] at hku
        split at hku
        · rename_i hk
          rw [List.getElem?_drop] at hku
          obtain ⟨ad, rfl, hc1, hc2⟩ := g7 _ _ hku
          have hne : ¬ c = l := by
            intro e
            have : h' - l = 0 := by omega
            rw [this] at hk
            omega
          rw [if_neg hne]
          refine ⟨_, rfl, by rw [add_blk]; exact hc1, ?_⟩
          rw [add_add, ← hsz]
          exact hc2
        · cases hku
    · exact h.elim
  · rename_i n e o k hu
    simp only [must_iff, Bool.and_eq_true, beq_iff_eq, decide_eq_true_eq] at h
    obtain ⟨⟨⟨⟨hs, h2⟩, hn⟩, _⟩, h⟩ := h
    obtain ⟨g, hG, rfl⟩ := hx
    have key : ∀ {st' : List Ob} {χ' : Nat → Color}, Fits E χ' G ⟨env, st'⟩ a w → vcBounds n (lo.map ρ) (hi.map ρ) (fun l h => l < n ∧ R (.sref o (k + l) (h - l)) st') →
        ∃ s v st', R s st' ∧ (Instr.sliceAt t (.pointer (some ⟨g, k, none⟩)) (lo.map a.eval) (hi.map a.eval) none).run P w = .ok v w ∧ Rel2 E ⟨env, st'⟩ a w s v := by
      intro st' χ' hf' hb
      obtain ⟨l, h', ⟨hln, hR⟩, hlh, hhn, hrun⟩ := bnds false (hρ hf') (Nat.le_refl _) hb
      have hne : ¬ n = l := by omega
      refine ⟨_, .slice (some ⟨g, k + l, none⟩) (h' - l) (n - l), _, hR, ?_, hf'.two ⟨g, n - l, hG, rfl, by omega, by simp only [maxLen]; omega⟩⟩
      simp [Instr.sliceAt, run_underlying hu, Instr.sureAddr, hrun, sizeOf_run h2, hs, hne, add_pl]
    split at h
    · exact key hf h
    · rename_i T cs hob
      split at h
      · rename_i ps hps
        obtain ⟨g', us, hG', hcol, hheap, hl⟩ := hf.2.1 o _ hob
        have hlt : o < st.length := (List.getElem?_eq_some_iff.1 hob).1
        refine key (hf.set (χ' := χ) (G' := G) hlt rfl rfl rfl (Nat.le_refl _) (fun b hb hne => ⟨rfl, rfl⟩) (fun _ _ => rfl) ⟨fun g hg => hg, fun n hd hh => ⟨n, hd, hh, Nat.le_refl _, fun _ => rfl⟩⟩ ?_) h
        exact ⟨g', us, [], hG', hcol, by rw [List.append_nil]; exact hheap, hl.length, RSL_unpures hps hl⟩
      · exact h.elim
    · exact h.elim
  · exact h.elim

theorem RL_append : ∀ {cs : List PV} {us : List Value}, RL χ w cs us → ∀ {cs' : List PV} {us' : List Value}, RL χ w cs' us' → RL χ w (cs ++ cs') (us ++ us')
  | [], us, h, cs', us', h' => by have : us = [] := h; subst this; exact h'
  | c :: cs, us, h, cs', us', h' => by
    obtain ⟨u, r, rfl, h1, h2, h3⟩ := h
    exact ⟨u, r ++ us', rfl, h1, h2, RL_append h3 h'⟩

theorem set_same {α : Type} {l : List α} {o : Nat} {x : α} (h : l[o]? = some x) : l.set o x = l := by
  apply List.ext_getElem?
  intro i
  rw [List.getElem?_set]
  split
  · rename_i e
    subst e
    rw [if_pos (List.getElem?_eq_some_iff.1 h).1, h]
  · rfl

theorem RF_flat {sz : Nat} : ∀ {xs : List PV} {us : List Value}, RF χ w sz xs us → RL χ w (xs.flatMap PV.cells) us
  | [], us, h => h
  | x :: xs, us, ⟨u, r, h1, h2, h3, h4, h5⟩ => by
    subst h1
    rw [List.flatMap_cons]
    exact RL_append (RL_cells (RP_one h4 h3) h4) (RF_flat h5)

theorem copy_ok {t t' ty : TypeId} {d x : SV} {vd vx : Value} {R : Res} (hf : Fits E χ G ⟨env, st⟩ a w) (hd : RS χ w G d vd) (hx : RS χ w G x vx) (h : vcCopy P t d x st R) :
    ∃ s v st' w', R s st' ∧ (Builtin.copy_ #[t, t'] ty #[vd, vx]).run P w = .ok v w' ∧ Rel2 E ⟨env, st'⟩ a w' s v := by
  unfold vcCopy at h
  split at h
  · rename_i e hu
    simp only [must_iff, Bool.and_eq_true, beq_iff_eq] at h
    obtain ⟨⟨hs, h2⟩, h⟩ := h
    have hs1 : (P.info? e).map (·.size) = some 1 := by
      cases hi : P.info? e with
      | none => rw [hi] at h2; cases h2
      | some i => simp [szOf, hi] at hs; simp [hs]
    obtain ⟨sz, ys, A, c, us, ⟨rfl, h⟩, rfl, hle, hmx, hr, hA, hcell⟩ := elems_reads hx hf.2.1 h
    have hul : us.length = ys.length := by rw [hr.len, Nat.mul_one]
    have htake : ∀ n, RF χ w 1 (ys.take n) (us.take n) := fun n => by simpa using hr.take n
    -- what goes over
    have hsrc : ∀ (n : Nat) (ad : Addr), A = some ad → ∀ j v, (us.take n)[j]? = some v → w.cell? (ad.add j) = some v := fun n ad e j v hj => by
      rw [List.getElem?_take] at hj
      split at hj
      · obtain ⟨ad', e', hc⟩ := hcell j v hj
        rw [e] at e'
        injection e' with e'
        subst e'
        exact hc
      · cases hj
    cases d with
    | sref o k n =>
      simp only at h
      obtain ⟨g, c', hG, rfl, hc1, hc2⟩ := hd
      split at h
      · rename_i T m xs hob
        obtain ⟨hkn, hR⟩ := h
        simp only [decide_eq_true_eq] at hkn
        obtain ⟨g', ws, vs, hG', hcol, hheap, hum, hl⟩ := hf.2.1 o _ hob
        rw [hG] at hG'
        injection hG' with hG'
        injection hG' with hG'
        subst hG'
        have hlt : o < st.length := (List.getElem?_eq_some_iff.1 hob).1
        have hlen := hl.length
        cases A with
        | none =>
          have hc0 := hA rfl
          have hy : ys = [] := List.eq_nil_of_length_eq_zero (by omega)
          subst hy
          have e1 : st.set o (.row T m (xs.take k ++ (([] : List PV).take n).flatMap PV.cells ++ xs.drop (k + min ([] : List PV).length n))) = st := by
            have : (xs.take k ++ (([] : List PV).take n).flatMap PV.cells ++ xs.drop (k + min ([] : List PV).length n)) = xs := by simp
            rw [this]
            exact set_same hob
          rw [e1] at hR
          exact ⟨_, _, _, w, hR, run_copy_none w t t' ty e _ _ n c' _ c hu hs1 (by simp), hf.two rfl⟩
        | some ad =>
          have hcs : (us.take n).length = min ys.length n := by rw [List.length_take, hul, Nat.min_comm]
          have hrun := run_copy_row (P := P) w t t' ty e g k n c' ad ys.length c (ws ++ vs).toArray T (us.take n) hu hs1 hheap hcs (hsrc n ad rfl) (by rw [hcs]; simp only [List.size_toArray, List.length_append]; omega) (htake n).one
          rw [hcs] at hrun
          have eap : (ws ++ vs).toArray.toList.take k ++ us.take n ++ (ws ++ vs).toArray.toList.drop (k + min ys.length n) = (ws.take k ++ us.take n ++ ws.drop (k + min ys.length n)) ++ vs := by
            simp only []
            rw [List.take_append_of_le_length (by omega), List.drop_append_of_le_length (by omega)]
            simp [List.append_assoc]
          rw [eap] at hrun
          have hbl : ∀ (cs : Array Value), ∀ b, b < w.heap.size → χ b ≠ .own o → (w.setRow g cs).heap[b]? = w.heap[b]? := fun cs b hb hne => setRow_ne _ _ _ _ (fun e => hne (by rw [e]; exact hcol))
          have hk' : ∀ cs, Keep χ w χ (w.setRow g cs) := fun cs b hb hi => ⟨hi, hbl cs b hb (by rw [hi]; simp)⟩
          refine ⟨_, _, _, _, hR, hrun, (hf.set (w' := w.setRow g ((ws.take k ++ us.take n ++ ws.drop (k + min ys.length n)) ++ vs).toArray) (χ' := χ) (G' := G) hlt rfl rfl rfl (by simp) (fun b hb hne => ⟨rfl, hbl _ b hb hne⟩) (fun _ _ => rfl) ⟨fun g hg => hg, fun n hd hh => ⟨n, hd, hh, Nat.le_refl _, fun _ => rfl⟩⟩ ?_).two rfl⟩
          refine ⟨g, ws.take k ++ us.take n ++ ws.drop (k + min ys.length n), vs, hG, hcol, setRow_at w g _ _ T _ hheap, ?_, ?_⟩
          · simp only [List.length_append, List.length_take, List.length_drop, hcs]
            omega
          · exact RL_append (RL_append (RL.mono (hk' _) _ _ (hl.take k)) (RL.mono (hk' _) _ _ (RF_flat (htake n)))) (RL.mono (hk' _) _ _ (hl.drop _))
      · exact h.elim
    | vref o v =>
      simp only at h
      split at h
      · rename_i m e' sz nl xs hob
        obtain ⟨⟨rfl, rfl⟩, hR⟩ := h
        obtain ⟨hd0, ws, hG, hown, hrx, hnl, hcol⟩ := hf.2.1 o _ hob
        obtain ⟨_, m', hd1, hG', hle', hv⟩ := hd
        rw [hG] at hG'
        injection hG' with hG'
        injection hG' with e1 e2
        subst e1 e2
        have := hv rfl
        subst this
        have hlt : o < st.length := (List.getElem?_eq_some_iff.1 hob).1
        have hwl : ws.length = xs.length := by rw [hown.1, Nat.mul_one]
        have same : (A = none ∨ xs.length = 0) → st.set o (.vec v e' 1 nl (ys.take xs.length ++ xs.drop (min ys.length xs.length))) = st ∧ min ys.length xs.length = 0 := by
          intro hz
          have h0 : min ys.length xs.length = 0 := by
            rcases hz with hz | hz
            · have := hA hz; omega
            · omega
          have : ys.take xs.length ++ xs.drop (min ys.length xs.length) = xs := by
            rw [h0]
            have : ys.take xs.length = [] := List.eq_nil_of_length_eq_zero (by rw [List.length_take]; omega)
            simp [this]
          rw [this]
          exact ⟨set_same hob, h0⟩
        have none_case : ∀ (d : Option Addr) (cap : Nat), vd = .slice d xs.length cap → (A = none ∨ xs.length = 0) →
            ∃ s v st' w', R s st' ∧ (Builtin.copy_ #[t, t'] ty #[vd, .slice A ys.length c]).run P w = .ok v w' ∧ Rel2 E ⟨env, st'⟩ a w' s v := by
          intro d cap e hz
          obtain ⟨e1, e2⟩ := same hz
          rw [e1, e2] at hR
          subst e
          exact ⟨_, _, _, w, hR, run_copy_none w t t' ty e _ _ _ _ _ _ hu hs1 e2, hf.two rfl⟩
        rcases hown.2 with ⟨rfl, h0⟩ | ⟨g, cap, cur, rfl, _, hg, hnc, hm, hcs, htk⟩
        · exact none_case none 0 (by rw [h0]) (.inr h0)
        · cases hA' : A with
          | none =>
            have := none_case (some ⟨g, 0, none⟩) cap rfl (.inl hA')
            rw [hA'] at this
            exact this
          | some ad =>
            have hcs' : (us.take xs.length).length = min ys.length xs.length := by rw [List.length_take, hul, Nat.min_comm]
            have hrun := run_copy_row (P := P) w t t' ty e g 0 xs.length cap ad ys.length c cur e' (us.take xs.length) hu hs1 hg hcs' (hsrc _ ad hA') (by rw [hcs']; omega) (htake _).one
            rw [hcs'] at hrun
            have hc1 := hcol g rfl
            have hbl : ∀ (cs : Array Value), ∀ b, b < w.heap.size → χ b ≠ .own o → (w.setRow g cs).heap[b]? = w.heap[b]? := fun cs b hb hne => setRow_ne _ _ _ _ (fun e => hne (by rw [e]; exact hc1))
            have hk' : ∀ cs, Keep χ w χ (w.setRow g cs) := fun cs b hb hi => ⟨hi, hbl cs b hb (by rw [hi]; simp)⟩
            refine ⟨_, _, _, _, hR, hrun, (hf.set (w' := w.setRow g (cur.toList.take 0 ++ us.take xs.length ++ cur.toList.drop (0 + min ys.length xs.length)).toArray) (χ' := χ) (G' := G) hlt rfl rfl rfl (by simp) (fun b hb hne => ⟨rfl, hbl _ b hb hne⟩) (fun _ _ => rfl) ⟨fun g hg => hg, fun n hd hh => ⟨n, hd, hh, Nat.le_refl _, fun _ => rfl⟩⟩ ?_).two rfl⟩
            have hn : (ys.take xs.length ++ xs.drop (min ys.length xs.length)).length = xs.length := by
              simp only [List.length_append, List.length_take, List.length_drop]; omega
            refine ⟨_, us.take xs.length ++ ws.drop (min ys.length xs.length), hG, ⟨by rw [hn]; simp only [List.length_append, List.length_take, List.length_drop]; omega, .inr ⟨g, cap, _, by rw [hn], Nat.zero_le _, setRow_at w g _ _ _ _ hg, by rw [hn]; exact hnc, hm, ?_, ?_⟩⟩, ?_, hnl, hcol⟩
            · simp only [List.take_zero, List.nil_append, Nat.zero_add, List.size_toArray, List.length_append, List.length_drop, hcs', Array.length_toList]
              omega
            · simp only [List.take_zero, List.nil_append, Nat.zero_add, hcs']
              rw [hn, ← htk, List.take_append]
              have e1 : (us.take xs.length).length = min ys.length xs.length := hcs'
              rw [e1, List.take_of_length_le (by omega), Nat.mul_one, List.drop_take]
            · have := (RF.mono (hk' ((cur.toList.take 0 ++ us.take xs.length ++ cur.toList.drop (0 + min ys.length xs.length)).toArray)) _ _ _ (htake xs.length)).append (RF.mono (hk' _) _ _ _ (hrx.drop (min ys.length xs.length)))
              simpa using this
      · exact h.elim
    | _ => exact h.elim
  · exact h.elim

theorem zeroCells_one (z : Value) (n : Nat) (hz : z.oneCell' = true) : (Builtin.zeroCells z.cells n).toList = List.replicate n z := by
  have hc : z.cells = #[z] := by cases z <;> simp_all [Value.cells, Value.oneCell']
  unfold Builtin.zeroCells
  rw [hc]
  apply List.ext_getElem
  · simp
  · intro i h1 h2
    simp [Nat.mod_one]

theorem clear_ok {t ty : TypeId} {x : SV} {vx : Value} {R : Res} (hf : Fits E χ G ⟨env, st⟩ a w) (hx : RS χ w G x vx) (h : vcClear P t x st R) :
    ∃ s v st' w', R s st' ∧ (Builtin.clear_ #[t] ty #[vx]).run P w = .ok v w' ∧ Rel2 E ⟨env, st'⟩ a w' s v := by
  unfold vcClear at h
  split at h
  · rename_i e hu
    split at h
    · rename_i i hi
      split at h
      · rename_i z hz
        simp only [must_iff, Bool.and_eq_true, beq_iff_eq] at h
        obtain ⟨⟨hs, hone⟩, h⟩ := h
        split at h
        · rename_i o k n
          obtain ⟨g, c, hG, rfl, hc1, hc2⟩ := hx
          split at h
          · rename_i T m xs hob
            obtain ⟨hkn, hR⟩ := h
            obtain ⟨g', ws, vs, hG', hcol, hheap, hum, hl⟩ := hf.2.1 o _ hob
            rw [hG] at hG'
            injection hG' with hG'
            injection hG' with hG'
            subst hG'
            have hlt : o < st.length := (List.getElem?_eq_some_iff.1 hob).1
            cases n with
            | zero =>
              have e1 : st.set o (.row T m (xs.take k ++ List.replicate 0 (ofV1 z) ++ xs.drop (k + 0))) = st := by
                have : xs.take k ++ List.replicate 0 (ofV1 z) ++ xs.drop (k + 0) = xs := by simp
                rw [this]
                exact set_same hob
              rw [e1] at hR
              refine ⟨_, .tuple #[], _, w, hR, ?_, hf.two ⟨[], rfl, rfl⟩⟩
              simp [Builtin.clear_, run_underlying hu]
            | succ n =>
              have hst := run_storeCells_at P g k T (List.replicate (n + 1) z) 0 (ws ++ vs).toArray w hheap (by simp; omega) (fun v hv => by rw [List.eq_of_mem_replicate hv]; exact hone)
              have hbl : ∀ (cs : Array Value), ∀ b, b < w.heap.size → χ b ≠ .own o → (w.setRow g cs).heap[b]? = w.heap[b]? := fun cs b hb hne => setRow_ne _ _ _ _ (fun e => hne (by rw [e]; exact hcol))
              have hk' : ∀ cs, Keep χ w χ (w.setRow g cs) := fun cs b hb hi => ⟨hi, hbl cs b hb (by rw [hi]; simp)⟩
              refine ⟨_, .tuple #[], _, w.setRow g ((ws.take k ++ List.replicate (n + 1) z ++ ws.drop (k + (n + 1))) ++ vs).toArray, hR, ?_, (hf.set (w' := w.setRow g ((ws.take k ++ List.replicate (n + 1) z ++ ws.drop (k + (n + 1))) ++ vs).toArray) (χ' := χ) (G' := G) hlt rfl rfl rfl (by simp) (fun b hb hne => ⟨rfl, hbl _ b hb hne⟩) (fun _ _ => rfl) ⟨fun g hg => hg, fun n hd hh => ⟨n, hd, hh, Nat.le_refl _, fun _ => rfl⟩⟩ ?_).two (s := .tup []) ⟨[], rfl, rfl⟩⟩
              · have hst' := hst
                simp only [Nat.add_zero, List.length_replicate] at hst'
                have eap : (ws ++ vs).take k ++ List.replicate (n + 1) z ++ (ws ++ vs).drop (k + (n + 1)) = (ws.take k ++ List.replicate (n + 1) z ++ ws.drop (k + (n + 1))) ++ vs := by
                  rw [List.take_append_of_le_length (by omega), List.drop_append_of_le_length (by omega)]
                  simp [List.append_assoc]
                rw [eap] at hst'
                simp [Builtin.clear_, run_underlying hu, zeroValue, typeInfo, hi, hz, zeroCells_one z _ hone, hst']
              · refine ⟨g, _, vs, hG, hcol, setRow_at w g _ _ T _ hheap, ?_, ?_⟩
                · simp only [List.length_append, List.length_take, List.length_drop, List.length_replicate]
                  omega
                · refine RL_append (RL_append (RL.mono (hk' _) _ _ (hl.take k)) ?_) (RL.mono (hk' _) _ _ (hl.drop _))
                  have : ∀ (χ : Nat → Color) (w : World) (n : Nat), RL χ w (List.replicate n (ofV1 z)) (List.replicate n z) := by
                    intro χ w n
                    induction n with
                    | zero => exact rfl
                    | succ n ih => exact ⟨z, _, rfl, hone, RP_ofV1 _ _ z, ih⟩
                  exact this _ _ _
          · exact h.elim
        · exact h.elim
      · exact h.elim
    · exact h.elim
  · exact h.elim
end
end Go.Sy
/- Calls: a contract serves wherever its arguments fit. -/
set_option linter.all false
set_option maxHeartbeats 4000000
namespace Go.Sy
open Go.RowKit

section
variable {χ χ' : Nat → Color} {w : World} {G G' : Gh} {m : Nat → Nat} (hI : ∀ b, b < w.heap.size → χ b = .imm → χ' b = .imm)
include hI
theorem keepI : Keep χ w χ' w := fun b hb h => ⟨hI b hb h, rfl⟩
section
variable (hG : ∀ j h, G j = some h → G' (m j) = some h)
include hG
mutual
theorem RS.rn : ∀ (s : SV) (v : Value), RS χ w G s v → RS χ' w G' (s.rn m) v
  | .pure p, v, h => RP.mono (keepI hI) p v h
  | .ptr o k, v, ⟨g, h, e⟩ => ⟨g, hG _ _ h, e⟩
  | .vref o n, v, ⟨h0, k, h, h1, h2⟩ => ⟨h0, k, h, hG _ _ h1, h2⟩
  | .eptr o n sz i off, v, ⟨ad, h0, k, h, h1, h2⟩ => ⟨ad, h0, k, h, hG _ _ h1, h2⟩
  | .ipt cs, v, ⟨ad, us, h1, h2, h3⟩ => ⟨ad, us, h1, RL.mono (keepI hI) cs us h2, h3.mono (keepI hI)⟩
  | .mref o, v, ⟨g, h, e⟩ => ⟨g, hG _ _ h, e⟩
  | .agg cs, v, ⟨us, h1, h2⟩ => ⟨us, h1, RSL.rn cs us h2⟩
  | .tup cs, v, ⟨us, h1, h2⟩ => ⟨us, h1, RTL.rn cs us h2⟩
  | .clo f cs, v, ⟨us, h1, h2⟩ => ⟨us, h1, RTL.rn cs us h2⟩
  | .dead, v, h => trivial
  | .lit sz xs, v, ⟨h, e⟩ => ⟨RP.mono (keepI hI) _ v h, e⟩
  | .sref o k n, v, ⟨g, c, h, e⟩ => ⟨g, c, hG _ _ h, e⟩
  | .yld o, v, ⟨g, h, e⟩ => ⟨g, hG _ _ h, e⟩
  | .bnd f cs, v, ⟨us, h1, h2⟩ => ⟨us, h1, RTL.rn cs us h2⟩
theorem RSL.rn : ∀ (cs : List SV) (us : List Value), RSL χ w G cs us → RSL χ' w G' (SV.rnL m cs) us
  | [], us, h => h
  | c :: cs, us, ⟨u, r, h1, h2, h3, h4⟩ => ⟨u, r, h1, h2, RS.rn c u h3, RSL.rn cs r h4⟩
theorem RTL.rn : ∀ (cs : List SV) (us : List Value), RTL χ w G cs us → RTL χ' w G' (SV.rnL m cs) us
  | [], us, h => h
  | c :: cs, us, ⟨u, r, h1, h2, h3⟩ => ⟨u, r, h1, RS.rn c u h2, RTL.rn cs r h3⟩
end
end
section
variable {k : Nat} (hG : ∀ j h, j < k → G (m j) = some h → G' j = some h)
include hG
mutual
theorem RS.unrn : ∀ (s : SV) (v : Value), s.inn k = true → RS χ w G (s.rn m) v → RS χ' w G' s v
  | .pure p, v, hs, h => RP.mono (keepI hI) p v h
  | .ptr o k, v, hs, ⟨g, h, e⟩ => ⟨g, hG _ _ (by simpa [SV.inn] using hs) h, e⟩
  | .vref o n, v, hs, ⟨h0, k, h, h1, h2⟩ => ⟨h0, k, h, hG _ _ (by simpa [SV.inn] using hs) h1, h2⟩
  | .eptr o n sz i off, v, hs, ⟨ad, h0, k, h, h1, h2⟩ => ⟨ad, h0, k, h, hG _ _ (by simpa [SV.inn] using hs) h1, h2⟩
  | .ipt cs, v, hs, ⟨ad, us, h1, h2, h3⟩ => ⟨ad, us, h1, RL.mono (keepI hI) cs us h2, h3.mono (keepI hI)⟩
  | .mref o, v, hs, ⟨g, h, e⟩ => ⟨g, hG _ _ (by simpa [SV.inn] using hs) h, e⟩
  | .agg cs, v, hs, ⟨us, h1, h2⟩ => ⟨us, h1, RSL.unrn cs us (by simpa [SV.inn] using hs) h2⟩
  | .tup cs, v, hs, ⟨us, h1, h2⟩ => ⟨us, h1, RTL.unrn cs us (by simpa [SV.inn] using hs) h2⟩
  | .clo f cs, v, hs, ⟨us, h1, h2⟩ => ⟨us, h1, RTL.unrn cs us (by simpa [SV.inn] using hs) h2⟩
  | .dead, v, hs, h => trivial
  | .lit sz xs, v, hs, ⟨h, e⟩ => ⟨RP.mono (keepI hI) _ v h, e⟩
  | .sref o k n, v, hs, ⟨g, c, h, e⟩ => ⟨g, c, hG _ _ (by simpa [SV.inn] using hs) h, e⟩
  | .yld o, v, hs, ⟨g, h, e⟩ => ⟨g, hG _ _ (by simpa [SV.inn] using hs) h, e⟩
  | .bnd f cs, v, hs, ⟨us, h1, h2⟩ => ⟨us, h1, RTL.unrn cs us (by simpa [SV.inn] using hs) h2⟩
theorem RSL.unrn : ∀ (cs : List SV) (us : List Value), SV.inL k cs = true → RSL χ w G (SV.rnL m cs) us → RSL χ' w G' cs us
  | [], us, hs, h => h
  | c :: cs, us, hs, ⟨u, r, h1, h2, h3, h4⟩ => by
    simp only [SV.inL, Bool.and_eq_true] at hs
    exact ⟨u, r, h1, h2, RS.unrn c u hs.1 h3, RSL.unrn cs r hs.2 h4⟩
theorem RTL.unrn : ∀ (cs : List SV) (us : List Value), SV.inL k cs = true → RTL χ w G (SV.rnL m cs) us → RTL χ' w G' cs us
  | [], us, hs, h => h
  | c :: cs, us, hs, ⟨u, r, h1, h2, h3⟩ => by
    simp only [SV.inL, Bool.and_eq_true] at hs
    exact ⟨u, r, h1, RS.unrn c u hs.1 h2, RTL.unrn cs r hs.2 h3⟩
end
end
end

mutual
theorem SV.rn_id : ∀ (s : SV), s.rn id = s
  | .pure p => rfl
  | .ptr o k => rfl
  | .vref o n => rfl
  | .eptr o n sz i off => rfl
  | .ipt cs => rfl
  | .mref o => rfl
  | .agg cs => by simp only [SV.rn]; rw [SV.rnL_id cs]
  | .tup cs => by simp only [SV.rn]; rw [SV.rnL_id cs]
  | .clo f cs => by simp only [SV.rn]; rw [SV.rnL_id cs]
  | .dead => rfl
  | .lit _ _ => rfl
  | .sref _ _ _ => rfl
  | .yld _ => rfl
  | .bnd _ cs => by simp only [SV.rn]; rw [SV.rnL_id cs]
theorem SV.rnL_id : ∀ (cs : List SV), SV.rnL id cs = cs
  | [] => rfl
  | c :: cs => by
    simp only [SV.rnL]
    rw [SV.rn_id c, SV.rnL_id cs]
end

section
variable {P : Program} {E : Ent} {χ : Nat → Color} {G : Gh} {env : List SV} {st : List Ob} {a : Act} {w : World}

/-- What a callee may read, what it may not touch. -/
def chi (own : Bool) (χ : Nat → Color) (w : World) (b : Nat) : Color :=
  if b < w.heap.size then (match χ b with | .imm => .imm | .own _ => if own then .imm else .other | .other => .other | .mrk => .other) else .other

theorem fz_ok' (hst : RSt χ w G st) {s : SV} {v : Value} (hs : RS χ w G s v) (hn : (s.fz st).inn 0 = true) (hp : ∀ o k, s ≠ .ptr o k) : RS (chi true χ w) w (fun _ => none) (s.fz st) v := by
  have hI : ∀ b, b < w.heap.size → χ b = .imm → chi true χ w b = .imm := fun b hb h => by simp [chi, hb, h]
  have plain : s.fz st = s → RS (chi true χ w) w (fun _ => none) (s.fz st) v := fun e => by
    rw [e] at hn ⊢
    exact RS.unrn (m := id) (k := 0) hI (fun j h hj => by omega) s v hn (by rw [SV.rn_id s]; exact hs)
  cases s with
  | vref o n =>
    obtain ⟨h0, m, hd, hG, hle, hv⟩ := hs
    cases hob : st[o]? with
    | none => simp [SV.fz, hob, SV.inn] at hn
    | some ob =>
      cases ob with
      | cells t cs => simp [SV.fz, hob, SV.inn] at hn
      | gone => simp [SV.fz, hob, SV.inn] at hn
      | row t n xs => simp [SV.fz, hob, SV.inn] at hn
      | loop env ps asg body s pend => simp [SV.fz, hob, SV.inn] at hn
      | map es => simp [SV.fz, hob, SV.inn] at hn
      | iter mo es left cur => simp [SV.fz, hob, SV.inn] at hn
      | vec m' e sz nl xs =>
        by_cases hnm : n = m'
        · subst hnm
          simp only [SV.fz, hob, if_true]
          obtain ⟨hd', us, hG', hown, hf, hnl, hcol⟩ := hst o _ hob
          rw [hG] at hG'
          injection hG' with hG'
          injection hG' with e1 e2
          subst e1 e2
          have := hv rfl
          subst this
          have hf' := RF.mono (keepI hI) _ _ _ hf
          rcases hown.2 with ⟨rfl, h0'⟩ | ⟨g, c, cur, rfl, _, hh, hle', hm, hcs, htk⟩
          · have hus : us = [] := List.eq_nil_of_length_eq_zero (by rw [hown.1, h0', Nat.zero_mul])
            subst hus
            exact ⟨none, 0, [], by rw [h0'], by omega, Nat.zero_le _, fun _ => rfl, by simpa using hnl, hf', fun k u hu => by simp at hu⟩
          · have hg := (Array.getElem?_eq_some_iff.1 hh).1
            refine ⟨_, c, us, rfl, hle', hm, fun h => (by cases h), by simpa using hnl, hf', fun k u hu => ⟨_, rfl, ?_, ?_⟩⟩
            · simp only [chi]
              rw [if_pos hg, hcol g rfl]
              rfl
            · rw [add_pl, World.cell?, hh]
              simp only [Option.isSome_none, Bool.false_eq_true, if_false, Nat.zero_add]
              rw [← htk, List.getElem?_take] at hu
              split at hu
              · simpa using hu
              · cases hu
        · simp [SV.fz, hob, hnm, SV.inn] at hn
      | fro m' sz nl xs =>
        by_cases hnm : n = m'
        · subst hnm
          simp only [SV.fz, hob, if_true]
          obtain ⟨hd', hG', hr⟩ := hst o _ hob
          rw [hG] at hG'
          injection hG' with hG'
          injection hG' with e1 e2
          subst e1 e2
          have := hv rfl
          subst this
          exact RP.mono (keepI hI) _ _ hr
        · simp [SV.fz, hob, hnm, SV.inn] at hn
  | sref o k n =>
    obtain ⟨g, c, hG, rfl, h1, h2⟩ := hs
    cases hob : st[o]? with
    | none => simp [SV.fz, hob, SV.inn] at hn
    | some ob =>
      cases ob with
      | row t m xs =>
        by_cases hkn : k + n ≤ m
        · simp only [SV.fz, hob, hkn, if_true]
          obtain ⟨g', us, vs, hG', hcol, hh, hum, hl⟩ := hst o _ hob
          rw [hG] at hG'
          injection hG' with hG'
          injection hG' with hG'
          subst hG'
          have hg := (Array.getElem?_eq_some_iff.1 hh).1
          have hlen := hl.length
          have hl2 : RL (chi true χ w) w ((xs.drop k).take n) ((us.drop k).take n) := RL.mono (keepI hI) _ _ ((hl.drop k).take n)
          have e1 : ((xs.drop k).take n).length = n := by simp; omega
          refine ⟨_, c, (us.drop k).take n, by rw [e1], by rw [e1]; exact h1, h2, fun h => (by cases h), by simp, RF_ones hl2, fun j u hu => ⟨_, rfl, ?_, ?_⟩⟩
          · simp only [chi]
            rw [if_pos hg, hcol]
            rfl
          · rw [add_pl, World.cell?, hh]
            rw [List.getElem?_take] at hu
            split at hu
            · rw [List.getElem?_drop] at hu
              have hj := (List.getElem?_eq_some_iff.1 hu).1
              simpa [List.getElem?_append_left hj] using hu
            · cases hu
        · simp [SV.fz, hob, hkn, SV.inn] at hn
      | _ => simp [SV.fz, hob, SV.inn] at hn
  | ptr o k => exact absurd rfl (hp o k)
  | _ => exact plain rfl

mutual
/-- What is read of a value while nobody writes. -/
theorem pv_chi (hst : RSt χ w G st) : ∀ (s : SV) (v : Value) (p : PV), RS χ w G s v → s.pv st = some p → RP (chi true χ w) w p v
  | .pure q, v, p, hs, h => by
    have hI : ∀ b, b < w.heap.size → χ b = .imm → chi true χ w b = .imm := fun b hb h => by simp [chi, hb, h]
    simp only [SV.pv, Option.some.injEq] at h
    subst h
    exact RP.mono (keepI hI) _ _ hs
  | .vref o n, v, p, hs, h => by
    have e : (SV.vref o n).fz st = .pure p := by
      simp only [SV.pv, look] at h
      simp only [SV.fz]
      cases hob : st[o]? with
      | none => rw [hob] at h; cases h
      | some ob =>
        rw [hob] at h
        cases ob with
        | vec m e sz nl xs =>
          simp only at h ⊢
          split at h
          · rename_i hnm
            rw [if_pos hnm]
            simp only [Option.some.injEq] at h
            rw [h]
          · cases h
        | fro m sz nl xs =>
          simp only at h ⊢
          split at h
          · rename_i hnm
            rw [if_pos hnm]
            simp only [Option.some.injEq] at h
            rw [h]
          · cases h
        | _ => cases h
    have := fz_ok' hst hs (by rw [e]; rfl) (fun _ _ h => by cases h)
    rw [e] at this
    exact this
  | .agg cs, v, p, ⟨us, hv, hl⟩, h => by
    simp only [SV.pv] at h
    split at h
    · rename_i ps hps
      simp only [Option.some.injEq] at h
      subst h
      exact ⟨us, hv, pvL_chi hst cs us ps hl hps⟩
    · cases h
  | .ptr _ _, v, p, hs, h => by simp [SV.pv] at h
  | .eptr _ _ _ _ _, v, p, hs, h => by simp [SV.pv] at h
  | .ipt _, v, p, hs, h => by simp [SV.pv] at h
  | .mref _, v, p, hs, h => by simp [SV.pv] at h
  | .tup _, v, p, hs, h => by simp [SV.pv] at h
  | .clo _ _, v, p, hs, h => by simp [SV.pv] at h
  | .dead, v, p, hs, h => by simp [SV.pv] at h
  | .lit _ _, v, p, hs, h => by simp [SV.pv] at h
  | .sref _ _ _, v, p, hs, h => by simp [SV.pv] at h
  | .yld _, v, p, hs, h => by simp [SV.pv] at h
  | .bnd _ _, v, p, hs, h => by simp [SV.pv] at h
theorem pvL_chi (hst : RSt χ w G st) : ∀ (cs : List SV) (us : List Value) (ps : List PV), RSL χ w G cs us → SV.pvL st cs = some ps → RL (chi true χ w) w ps us
  | [], us, ps, hl, h => by
    simp only [SV.pvL, Option.some.injEq] at h
    subst h
    exact hl
  | c :: cs, us, ps, ⟨u, r, h1, h2, h3, h4⟩, h => by
    simp only [SV.pvL] at h
    split at h
    · rename_i p ps' hp hps
      simp only [Option.some.injEq] at h
      subst h
      exact ⟨u, r, h1, h2, pv_chi hst c u p h3 hp, pvL_chi hst cs r ps' h4 hps⟩
    · cases h
end

theorem fz_ok (hst : RSt χ w G st) {s : SV} {v : Value} (hs : RS χ w G s v) (hn : (s.fz st).inn 0 = true) : RS (chi true χ w) w (fun _ => none) (s.fz st) v := by
  by_cases hp : ∃ o k, s = .ptr o k
  · obtain ⟨o, k, rfl⟩ := hp
    obtain ⟨g, hG, rfl⟩ := hs
    cases hob : st[o]? with
    | none => simp [SV.fz, hob, SV.inn] at hn
    | some ob =>
      cases ob with
      | cells t cs =>
        cases hps : SV.pvL st cs with
        | none => simp [SV.fz, hob, hps, SV.inn] at hn
        | some ps =>
          simp only [SV.fz, hob, hps]
          obtain ⟨g', us, hG', hcol, hh, hl⟩ := hst o _ hob
          rw [hG] at hG'
          injection hG' with hG'
          injection hG' with hG'
          subst hG'
          have hg := (Array.getElem?_eq_some_iff.1 hh).1
          refine ⟨_, us.drop k, rfl, (pvL_chi hst cs us ps hl hps).drop k, fun j u hu => ⟨_, rfl, ?_, ?_⟩⟩
          · simp only [chi]
            rw [if_pos hg, hcol]
            rfl
          · rw [add_pl, World.cell?, hh]
            rw [List.getElem?_drop] at hu
            simpa using hu
      | _ => simp [SV.fz, hob, SV.inn] at hn
  · exact fz_ok' hst hs hn fun o k e => hp ⟨o, k, e⟩

theorem fzL_ok (hst : RSt χ w G st) : ∀ {args : List SV} {vs : List Value}, RTL χ w G args vs → SV.inL 0 (args.map (SV.fz st)) = true → RTL (chi true χ w) w (fun _ => none) (args.map (SV.fz st)) vs
  | [], vs, h, hn => h
  | s :: args, vs, ⟨u, r, h1, h2, h3⟩, hn => by
    simp only [List.map_cons, SV.inL, Bool.and_eq_true] at hn
    exact ⟨u, r, h1, fz_ok hst h2 hn.1, fzL_ok hst h3 hn.2⟩

theorem RS_flat {χ χ' : Nat → Color} {w w' : World} {G G' : Gh} {r : SV} {v : Value} (hf : r.flat = true) (h : RS χ w G r v) : RS χ' w' G' r v := by
  cases r with
  | pure p =>
    cases p with
    | val u => exact h
    | agg cs => simp [SV.flat] at hf
    | list sz nl xs => simp [SV.flat] at hf
  | tup cs =>
    obtain ⟨us, rfl, hl⟩ := h
    refine ⟨us, rfl, ?_⟩
    simp only [SV.flat] at hf
    induction cs generalizing us with
    | nil => exact hl
    | cons c cs ih =>
      obtain ⟨u, r, rfl, h1, h2⟩ := hl
      simp only [List.all_cons, Bool.and_eq_true] at hf
      refine ⟨u, r, rfl, ?_, ih hf.2 r h2⟩
      cases c with
      | pure p => cases p with
        | val u => exact h1
        | agg cs => simp at hf
        | list sz nl xs => simp at hf
      | _ => simp at hf
  | _ => simp [SV.flat] at hf

theorem call_pure {f : FuncId} {args : List SV} {vs : List Value} {q : SV → Prop} (hfit : Fits E χ G ⟨env, st⟩ a w) (hargs : RTL χ w G args vs)
    (h : CallOk P f (args.map (SV.fz st)) [] fun r st' => st' = [] ∧ q r) (hn : SV.inL 0 (args.map (SV.fz st)) = true) (hf : args.map (SV.fz st) = args ∨ ∀ r, q r → r.flat = true) :
    RunsTo P f vs.toArray w fun e w' => ∃ r v, q r ∧ e = .returned v ∧ Rel2 E ⟨env, st⟩ a w' r v := by
  -- behind a call that could write nothing
  have fin : ∀ (own : Bool) {χ1 : Nat → Color} {w' : World}, Fr (chi own χ w) w χ1 w' →
      Fits E (fun b => if b < w.heap.size then χ b else (match χ1 b with | .imm => .imm | _ => .other)) G ⟨env, st⟩ a w' := by
    intro own χ1 w' hfr
    refine hfit.ext hfr.os hfr.tape hfr.output hfr.size (fun b hb => ⟨by (try simp only); rw [if_pos hb], ?_⟩)
    cases hc : chi own χ w b with
    | imm => exact (hfr.imm b hb hc).2
    | other => exact (hfr.other b hb hc).2
    | own o =>
      simp only [chi] at hc
      rw [if_pos hb] at hc
      cases hcb : χ b <;> simp [hcb] at hc
      cases own <;> simp at hc
    | mrk =>
      simp only [chi] at hc
      rw [if_pos hb] at hc
      cases hcb : χ b <;> simp [hcb] at hc
      cases own <;> simp at hc
  rcases hf with hf | hf
  · rw [hf] at h hn
    have hI : ∀ b, b < w.heap.size → χ b = .imm → chi false χ w b = .imm := fun b hb h => by simp [chi, hb, h]
    have hargs' : RTL (chi false χ w) w (fun _ => none) args vs := RTL.unrn (m := id) (k := 0) hI (fun j h hj => by omega) args vs hn (by rw [SV.rnL_id args]; exact hargs)
    refine (h (chi false χ w) (fun _ => none) w vs (hfit.gl.mono fun b hb h => ⟨by simp [chi, hb, h], rfl⟩) hargs' (fun o ob ho => by simp at ho) (fun _ _ => rfl)).mono ?_
    rintro e w' ⟨r, v, st', χ1, G1, ⟨rfl, hq⟩, rfl, hr, _, hfr, _, _, hG1⟩
    refine ⟨r, v, hq, rfl, (fin false hfr).two ?_⟩
    have hr0 : (∀ j h, G1 j = some h → G (id j) = some h) := fun j h hj => by rw [hG1 j (Nat.zero_le _)] at hj; cases hj
    have := RS.rn (m := id) (χ' := fun b => if b < w.heap.size then χ b else (match χ1 b with | .imm => .imm | _ => .other)) (G' := G) (fun b hb hi => by
      (try simp only)
      split
      · rename_i hlt
        have hfr1 := hfr.imm b hlt
        have hfr2 := hfr.other b hlt
        cases hcb : χ b with
        | imm => rfl
        | own o =>
          have : chi false χ w b = .other := by simp [chi, hlt, hcb]
          rw [(hfr2 this).1] at hi; cases hi
        | other =>
          have : chi false χ w b = .other := by simp [chi, hlt, hcb]
          rw [(hfr2 this).1] at hi; cases hi
        | mrk =>
          have : chi false χ w b = .other := by simp [chi, hlt, hcb]
          rw [(hfr2 this).1] at hi; cases hi
      · rw [hi]) hr0 r v hr
    rw [SV.rn_id] at this
    exact this
  · have hargs' := fzL_ok hfit.2.1 hargs hn
    refine (h (chi true χ w) (fun _ => none) w vs (hfit.gl.mono fun b hb h => ⟨by simp [chi, hb, h], rfl⟩) hargs' (fun o ob ho => by simp at ho) (fun _ _ => rfl)).mono ?_
    rintro e w' ⟨r, v, st', χ1, G1, ⟨rfl, hq⟩, rfl, hr, _, hfr, _, _, hG1⟩
    exact ⟨r, v, hq, rfl, (fin true hfr).two (RS_flat (hf r hq) hr)⟩

/-- The place of an object among the callee's. -/
def ixOf (ids : List Nat) (o : Nat) : Nat := ids.idxOf o
theorem ixOf_lt {ids : List Nat} {o : Nat} (h : o ∈ ids) : ixOf ids o < ids.length := List.idxOf_lt_length_of_mem h
theorem getD_ixOf {ids : List Nat} {o : Nat} (h : o ∈ ids) : ids.getD (ixOf ids o) 0 = o := by
  rw [List.getD_eq_getElem?_getD, List.getElem?_eq_getElem (ixOf_lt h)]
  simp [ixOf]
theorem ixOf_getD {ids : List Nat} (hn : ids.Nodup) {j : Nat} (h : j < ids.length) : ixOf ids (ids.getD j 0) = j := by
  rw [List.getD_eq_getElem?_getD, List.getElem?_eq_getElem h]
  exact hn.idxOf_getElem j h
theorem getD_mem {ids : List Nat} {j : Nat} (h : j < ids.length) : ids.getD j 0 ∈ ids := by
  rw [List.getD_eq_getElem?_getD, List.getElem?_eq_getElem h]
  exact List.getElem_mem h

theorem putAll_at (m : Nat → Nat) : ∀ (ids : List Nat) (obs st : List Ob), ids.Nodup → (∀ i ∈ ids, i < st.length) → ids.length ≤ obs.length →
    (putAll m ids obs st).length = st.length ∧ ∀ o, (putAll m ids obs st)[o]? = if o ∈ ids then (obs[ixOf ids o]?).map (Ob.rn m) else st[o]?
  | [], obs, st, hn, hi, hl => by cases obs <;> simp [putAll]
  | i :: ids, [], st, hn, hi, hl => by simp at hl
  | i :: ids, ob :: obs, st, hn, hi, hl => by
    rw [List.nodup_cons] at hn
    obtain ⟨h1, h2⟩ := putAll_at m ids obs (st.set i (ob.rn m)) hn.2 (fun j hj => by simp; exact hi j (by simp [hj])) (by simpa using hl)
    simp only [putAll]
    refine ⟨by rw [h1]; simp, fun o => ?_⟩
    rw [h2 o]
    by_cases e : o = i
    · subst e
      have hlt := hi o (by simp)
      simp [hn.1, ixOf, hlt]
    · have e' : i ≠ o := fun h => e h.symm
      by_cases hm : o ∈ ids
      · have h3 : (i == o) = false := by simpa using e'
        simp [hm, ixOf, List.idxOf_cons, h3]
      · simp [hm, e, e', List.getElem?_set_ne e']

def tr (m : Nat → Nat) : Color → Color
  | .imm => .imm
  | .own j => .own (m j)
  | .other => .other
  | .mrk => .other

/-- What a callee sees of objects that it is handed, and what its caller sees behind it. -/
theorem obj_step {args args' : List SV} {vs : List Value} {ids : List Nat} {obs : List Ob} (hfit : Fits E χ G ⟨env, st⟩ a w) (hargs : RTL χ w G args vs)
    (hn : ids.Nodup) (hi : ∀ i ∈ ids, i < st.length) (ha : args = SV.rnL (fun j => ids.getD j 0) args') (hb : SV.inL ids.length args' = true)
    (ho : ids.map (fun i => st.getD i .gone) = obs.map (Ob.rn fun j => ids.getD j 0)) (hob : obs.all (Ob.inn ids.length) = true) :
    ∃ χc Gc, Gl χc w ∧ RTL χc w Gc args' vs ∧ RSt χc w Gc obs ∧ (∀ o, obs.length ≤ o → Gc o = none) ∧ (∀ j, j < ids.length → Gc j = G (ids.getD j 0)) ∧
      ∀ r v st' χ1 G1 w', RS χ1 w' G1 r v → RSt χ1 w' G1 st' → Fr χc w χ1 w' → obs.length ≤ st'.length → GLe obs.length Gc G1 → (∀ o, st'.length ≤ o → G1 o = none) →
        ∃ χ' G', Fits E χ' G' ⟨env, backSt ids st st'⟩ a w' ∧ RS χ' w' G' (r.rn (backN ids st.length)) v ∧ GGo G G' := by
  have hol : obs.length = ids.length := by simpa using (congrArg List.length ho).symm
  -- what the callee sees
  generalize hχc : (fun b => if b < w.heap.size then (match χ b with | .imm => Color.imm | .own o => if o ∈ ids then .own (ixOf ids o) else .other | .other => .other | .mrk => .other) else .other) = χc
  generalize hGc : (fun j => if j < ids.length then G (ids.getD j 0) else none) = Gc
  have c1 : ∀ b, b < w.heap.size → χ b = .imm → χc b = .imm := fun b hb h => by rw [← hχc]; simp [hb, h]
  have c2 : ∀ b o, b < w.heap.size → χ b = .own o → o ∈ ids → χc b = .own (ixOf ids o) := fun b o hb h hm => by rw [← hχc]; simp [hb, h, hm]
  have c3 : ∀ b o, b < w.heap.size → χ b = .own o → o ∉ ids → χc b = .other := fun b o hb h hm => by rw [← hχc]; simp [hb, h, hm]
  have c4 : ∀ b, b < w.heap.size → χ b = .other → χc b = .other := fun b hb h => by rw [← hχc]; simp [hb, h]
  have c5 : ∀ b, b < w.heap.size → χ b = .mrk → χc b = .other := fun b hb h => by rw [← hχc]; simp [hb, h]
  have g1 : ∀ j h, j < ids.length → G (ids.getD j 0) = some h → Gc j = some h := fun j h hj hh => by rw [← hGc]; simp only; rw [if_pos hj]; exact hh
  have g2 : ∀ j, j < ids.length → Gc j = G (ids.getD j 0) := fun j hj => by rw [← hGc]; simp only; rw [if_pos hj]
  have g3 : ∀ j, ids.length ≤ j → Gc j = none := fun j hj => by rw [← hGc]; simp only; rw [if_neg (by omega)]
  have hargs' : RTL χc w Gc args' vs := RTL.unrn (m := fun j => ids.getD j 0) (k := ids.length) c1 g1 args' vs hb (by rw [← ha]; exact hargs)
  have hobs : RSt χc w Gc obs := by
    intro j ob hj
    have hjl : j < ids.length := by rw [← hol]; exact (List.getElem?_eq_some_iff.1 hj).1
    have hmem := getD_mem hjl
    have hin : ob.inn ids.length = true := by
      rw [List.all_eq_true] at hob
      exact hob ob (List.mem_of_getElem? hj)
    have e1 : st[ids.getD j 0]? = some (ob.rn fun j => ids.getD j 0) := by
      have := congrArg (fun l => l[j]?) ho
      simp only [List.getElem?_map, hj, List.getElem?_eq_getElem hjl, Option.map_some, Option.some.injEq] at this
      have e2 : ids.getD j 0 = ids[j] := by rw [List.getD_eq_getElem?_getD, List.getElem?_eq_getElem hjl]; rfl
      rw [e2, ← this, List.getD_eq_getElem?_getD, List.getElem?_eq_getElem (hi _ (List.getElem_mem hjl))]
      rfl
    have hro := hfit.2.1 _ _ e1
    have hcol : ∀ g, χ g = .own (ids.getD j 0) → g < w.heap.size → χc g = .own j := fun g hg hlt => by rw [c2 g _ hlt hg hmem, ixOf_getD hn hjl]
    cases ob with
    | cells t cs =>
      obtain ⟨g, us, k1, k2, k3, k4⟩ := hro
      exact ⟨g, us, g1 _ _ hjl k1, hcol g k2 (Array.getElem?_eq_some_iff.1 k3).1, k3, RSL.unrn (m := fun j => ids.getD j 0) (k := ids.length) c1 g1 cs us (by simpa [Ob.inn] using hin) k4⟩
    | vec n e sz nl xs =>
      obtain ⟨hd, us, k1, k2, k3, k4, k5⟩ := hro
      refine ⟨hd, us, g1 _ _ hjl k1, k2, RF.mono (keepI c1) _ _ _ k3, k4, fun g hg => hcol g (k5 g hg) ?_⟩
      rcases k2.2 with ⟨rfl, _⟩ | ⟨g', c, cur, rfl, _, hh, _⟩
      · simp [Value.ownBlock] at hg
      · simp [Value.ownBlock] at hg; subst hg; exact (Array.getElem?_eq_some_iff.1 hh).1
    | fro n sz nl xs =>
      obtain ⟨hd, k1, k2⟩ := hro
      exact ⟨hd, g1 _ _ hjl k1, RP.mono (keepI c1) _ _ k2⟩
    | gone => trivial
    | row t n xs =>
      obtain ⟨g, us, vs, k1, k2, k3, k4, k5⟩ := hro
      exact ⟨g, us, vs, g1 _ _ hjl k1, hcol g k2 (Array.getElem?_eq_some_iff.1 k3).1, k3, k4, RL.mono (keepI c1) _ _ k5⟩
    | loop env ps asg body s pend =>
      obtain ⟨g, us, fn, D, k1, k2, k3, k4⟩ := hro
      exact ⟨g, us, fn, D, g1 _ _ hjl k1, hcol g k2 (Array.getElem?_eq_some_iff.1 k3).1, k3, RTL.unrn (m := fun j => ids.getD j 0) (k := ids.length) c1 g1 env us (by simpa [Ob.inn] using hin) k4⟩
    | map es =>
      obtain ⟨g, es', c, k1, k2, k3, k4, k5, k6⟩ := hro
      exact ⟨g, es', c, g1 _ _ hjl k1, hcol g k2 (Array.getElem?_eq_some_iff.1 k3).1, k3, RM.mono (keepI c1) _ _ k4, k5, k6⟩
    | iter mo es left cur =>
      obtain ⟨r, g, es', c, since, seen, c0, k1, k2, k3, k4, k5, k6, k7, k8, k9, k10, k11, k12, k13, k14⟩ := hro
      have hmo : mo < ids.length := by simpa [Ob.inn] using hin
      refine ⟨r, g, es', c, since, seen, c0, g1 _ _ hjl k1, g1 _ _ hmo k2, hcol r k3 (Array.getElem?_eq_some_iff.1 k9).1, hcol g k4 (Array.getElem?_eq_some_iff.1 k5).1, k5, RM.mono (keepI c1) _ _ k6, k7, k8, k9, k10, k11, k12, RM.mono (keepI c1) _ _ k13, fun c hc => ?_⟩
      obtain ⟨j0, e, seen', j1, j2, j3, j4⟩ := k14 c hc
      exact ⟨j0, e, seen', j1, j2, RP.mono (keepI c1) _ _ j3, RP.mono (keepI c1) _ _ j4⟩
  refine ⟨χc, Gc, hfit.gl.mono fun b hb h => ⟨c1 b hb h, rfl⟩, hargs', hobs, fun o ho' => g3 o (by omega), g2, ?_⟩
  intro r v st' χ1 G1 w' hr hst1 hfr hlen hgle hnone
  rw [hol] at hlen hgle
  generalize hχ' : (fun b => if b < w.heap.size then (match χ b with | .own o => if o ∈ ids then tr (backN ids st.length) (χ1 b) else .own o | c => c) else tr (backN ids st.length) (χ1 b)) = χ'
  generalize hG' : (fun o => if o ∈ ids then G1 (ixOf ids o) else if st.length ≤ o then G1 (ids.length + (o - st.length)) else G o) = G'
  have d1 : ∀ b, b < w.heap.size → χ b = .imm → χ' b = .imm := fun b hb h => by rw [← hχ']; simp [hb, h]
  have d2 : ∀ b, b < w.heap.size → χ b = .other → χ' b = .other := fun b hb h => by rw [← hχ']; simp [hb, h]
  have d3 : ∀ b o, b < w.heap.size → χ b = .own o → o ∉ ids → χ' b = .own o := fun b o hb h hm => by rw [← hχ']; simp [hb, h, hm]
  have d4 : ∀ b, χ1 b = .imm → χ' b = .imm := fun b h => by
    rw [← hχ']
    simp only
    split
    · rename_i hb
      cases hc : χ b with
      | imm => rfl
      | other => have := (hfr.other b hb (c4 b hb hc)).1; rw [h] at this; cases this
      | mrk => have := (hfr.other b hb (c5 b hb hc)).1; rw [h] at this; cases this
      | own o =>
        simp only
        split
        · rw [h]; rfl
        · rename_i hm; have := (hfr.other b hb (c3 b o hb hc hm)).1; rw [h] at this; cases this
    · rw [h]; rfl
  have d5 : ∀ b j, χ1 b = .own j → χ' b = .own (backN ids st.length j) := fun b j h => by
    rw [← hχ']
    simp only
    split
    · rename_i hb
      cases hc : χ b with
      | imm => have := (hfr.imm b hb (c1 b hb hc)).1; rw [h] at this; cases this
      | other => have := (hfr.other b hb (c4 b hb hc)).1; rw [h] at this; cases this
      | mrk => have := (hfr.other b hb (c5 b hb hc)).1; rw [h] at this; cases this
      | own o =>
        simp only
        split
        · rw [h]; rfl
        · rename_i hm; have := (hfr.other b hb (c3 b o hb hc hm)).1; rw [h] at this; cases this
    · rw [h]; rfl
  have d6 : ∀ b, b < w.heap.size → χ b = .mrk → χ' b = .mrk := fun b hb h => by rw [← hχ']; simp [hb, h]
  have e1 : ∀ o, o ∈ ids → G' o = G1 (ixOf ids o) := fun o hm => by rw [← hG']; simp [hm]
  have e2 : ∀ o, o ∉ ids → o < st.length → G' o = G o := fun o hm hlt => by rw [← hG']; simp [hm]; omega
  have e3 : ∀ o, st.length ≤ o → G' o = G1 (ids.length + (o - st.length)) := fun o hle => by
    have hm : o ∉ ids := fun hm => by have := hi o hm; omega
    rw [← hG']; simp [hm, hle]
  have e4 : ∀ j h, G1 j = some h → G' (backN ids st.length j) = some h := fun j h hj => by
    unfold backN
    split
    · rename_i hjl
      rw [e1 _ (getD_mem hjl), ixOf_getD hn hjl]; exact hj
    · rw [e3 _ (by omega), show ids.length + (st.length + (j - ids.length) - st.length) = j by omega]; exact hj
  have hhp : ∀ b, b < w.heap.size → (∀ o, χ b = .own o → o ∉ ids) → w'.heap[b]? = w.heap[b]? := fun b hb hno => by
    cases hc : χ b with
    | imm => exact (hfr.imm b hb (c1 b hb hc)).2
    | other => exact (hfr.other b hb (c4 b hb hc)).2
    | mrk => exact (hfr.other b hb (c5 b hb hc)).2
    | own o => exact (hfr.other b hb (c3 b o hb hc (hno o hc))).2
  have hk : Keep χ w χ' w' := fun b hb hi' => ⟨d1 b hb hi', hhp b hb (fun o ho' => by rw [hi'] at ho'; cases ho')⟩
  have hgo : GGo G G' := fun o => by
    by_cases hm : o ∈ ids
    · have hlt := ixOf_lt hm
      obtain ⟨k1, k2⟩ := hgle _ hlt
      rw [g2 _ hlt, getD_ixOf hm] at k1 k2
      rw [e1 o hm]
      exact ⟨k1, k2⟩
    · by_cases hlt : o < st.length
      · rw [e2 o hm hlt]
        exact ⟨fun g hg => hg, fun n hd hh => ⟨n, hd, hh, Nat.le_refl _, fun _ => rfl⟩⟩
      · rw [hfit.2.2.2.2.2.2 o (by simpa using hlt)]
        exact ⟨fun g hg => (by cases hg), fun n hd hh => (by cases hh)⟩
  obtain ⟨p1, p2⟩ := putAll_at (backN ids st.length) ids st' st hn hi hlen
  have hbl : (backSt ids st st').length = st.length + (st'.length - ids.length) := by simp [backSt, p1]
  have hbg : ∀ o ob, (backSt ids st st')[o]? = some ob → (o ∈ ids ∧ ∃ ob1, st'[ixOf ids o]? = some ob1 ∧ ob = ob1.rn (backN ids st.length)) ∨ (o ∉ ids ∧ o < st.length ∧ st[o]? = some ob) ∨
      (st.length ≤ o ∧ ∃ ob1, st'[ids.length + (o - st.length)]? = some ob1 ∧ ob = ob1.rn (backN ids st.length)) := by
    intro o ob hob'
    unfold backSt at hob'
    by_cases hlt : o < st.length
    · rw [List.getElem?_append_left (by rw [p1]; exact hlt), p2 o] at hob'
      split at hob'
      · rename_i hm
        rw [Option.map_eq_some_iff] at hob'
        obtain ⟨ob1, k1, k2⟩ := hob'
        exact .inl ⟨hm, ob1, k1, k2.symm⟩
      · rename_i hm
        exact .inr (.inl ⟨hm, hlt, hob'⟩)
    · rw [List.getElem?_append_right (by rw [p1]; omega), p1, List.getElem?_map, List.getElem?_drop, Option.map_eq_some_iff] at hob'
      obtain ⟨ob1, k1, k2⟩ := hob'
      exact .inr (.inr ⟨by omega, ob1, k1, k2.symm⟩)
  have hro : ∀ (j : Nat) ob, st'[j]? = some ob → RO χ' w' G' (backN ids st.length j) (ob.rn (backN ids st.length)) := by
    intro j ob hj
    have := hst1 j ob hj
    cases ob with
    | cells t cs =>
      obtain ⟨g, us, k1, k2, k3, k4⟩ := this
      exact ⟨g, us, e4 _ _ k1, d5 g j k2, k3, RSL.rn (fun b _ h => d4 b h) e4 cs us k4⟩
    | vec n e sz nl xs =>
      obtain ⟨hd, us, k1, k2, k3, k4, k5⟩ := this
      exact ⟨hd, us, e4 _ _ k1, k2, RF.mono (keepI (fun b _ h => d4 b h)) _ _ _ k3, k4, fun g hg => d5 g j (k5 g hg)⟩
    | fro n sz nl xs =>
      obtain ⟨hd, k1, k2⟩ := this
      exact ⟨hd, e4 _ _ k1, RP.mono (keepI (fun b _ h => d4 b h)) _ _ k2⟩
    | gone => trivial
    | row t n xs =>
      obtain ⟨g, us, vs, k1, k2, k3, k4, k5⟩ := this
      exact ⟨g, us, vs, e4 _ _ k1, d5 g j k2, k3, k4, RL.mono (keepI (fun b _ h => d4 b h)) _ _ k5⟩
    | loop env ps asg body s pend =>
      obtain ⟨g, us, fn, D, k1, k2, k3, k4⟩ := this
      exact ⟨g, us, fn, D, e4 _ _ k1, d5 g j k2, k3, RTL.rn (fun b _ h => d4 b h) e4 env us k4⟩
    | map es =>
      obtain ⟨g, es', c, k1, k2, k3, k4, k5, k6⟩ := this
      exact ⟨g, es', c, e4 _ _ k1, d5 g j k2, k3, RM.mono (keepI (fun b _ h => d4 b h)) _ _ k4, k5, k6⟩
    | iter mo es left cur =>
      obtain ⟨r, g, es', c, since, seen, c0, k1, k2, k3, k4, k5, k6, k7, k8, k9, k10, k11, k12, k13, k14⟩ := this
      refine ⟨r, g, es', c, since, seen, c0, e4 _ _ k1, e4 _ _ k2, d5 r j k3, d5 g j k4, k5, RM.mono (keepI (fun b _ h => d4 b h)) _ _ k6, k7, k8, k9, k10, k11, k12, RM.mono (keepI (fun b _ h => d4 b h)) _ _ k13, fun c hc => ?_⟩
      obtain ⟨j0, e, seen', j1, j2, j3, j4⟩ := k14 c hc
      exact ⟨j0, e, seen', j1, j2, RP.mono (keepI (fun b _ h => d4 b h)) _ _ j3, RP.mono (keepI (fun b _ h => d4 b h)) _ _ j4⟩
  obtain ⟨f1, f2, f3, f4, f5, f6, f7⟩ := hfit
  refine ⟨χ', G', ⟨RTL.mono hk hgo _ _ f1, fun o ob hob' => ?_, ⟨hfr.os.trans f3.os, hfr.tape.trans f3.tape, hfr.output.trans f3.output, Nat.le_trans f3.size hfr.size, fun b hlt hi' => ?_, fun b hlt hi' => ?_⟩, f4.mono hk hgo (fun b hb hm => ⟨d6 b hb hm, hhp b hb (fun o ho' => by rw [hm] at ho'; cases ho')⟩), ?_, fun o ho' => ?_, fun o ho' => ?_⟩,
    RS.rn (fun b _ h => d4 b h) e4 r v hr, hgo⟩
  · rcases hbg o ob hob' with ⟨hm, ob1, k1, rfl⟩ | ⟨hm, hlt, k1⟩ | ⟨hle, ob1, k1, rfl⟩
    · have := hro _ _ k1
      rwa [show backN ids st.length (ixOf ids o) = o from by unfold backN; rw [if_pos (ixOf_lt hm), getD_ixOf hm]] at this
    · exact RO.mono hk hgo (e2 o hm hlt) (fun b hb hc => ⟨d3 b o hb hc hm, hhp b hb (fun o' ho' => by rw [hc] at ho'; injection ho' with ho'; rw [← ho']; exact hm)⟩) (f2 o ob k1)
    · have := hro _ _ k1
      rwa [show backN ids st.length (ids.length + (o - st.length)) = o from by unfold backN; rw [if_neg (by omega)]; omega] at this
  · obtain ⟨k1, k2⟩ := f3.imm b hlt hi'
    have hb := Nat.lt_of_lt_of_le hlt f3.size
    exact ⟨d1 b hb k1, (hhp b hb (fun o ho' => by rw [k1] at ho'; cases ho')).trans k2⟩
  · obtain ⟨k1, k2⟩ := f3.other b hlt hi'
    have hb := Nat.lt_of_lt_of_le hlt f3.size
    exact ⟨d2 b hb k1, (hhp b hb (fun o ho' => by rw [k1] at ho'; cases ho')).trans k2⟩
  · simp only at f5 ⊢; rw [hbl]; omega
  · obtain ⟨k1, k2⟩ := f6 o ho'
    refine ⟨fun g hg => (hgo o).1 g (k1 g hg), fun n hd hh => ?_⟩
    obtain ⟨m, hd', q1, q2, q3⟩ := k2 n hd hh
    obtain ⟨m', hd'', q4, q5, q6⟩ := (hgo o).2 m hd' q1
    exact ⟨m', hd'', q4, Nat.le_trans q2 q5, fun e => by rw [q6 (by omega), q3 (by omega)]⟩
  · simp only at ho'
    rw [hbl] at ho'
    rw [e3 o (by omega)]
    exact hnone _ (by omega)

theorem call_obj {f : FuncId} {args args' : List SV} {vs : List Value} {ids : List Nat} {obs : List Ob} {Q : Res} (hfit : Fits E χ G ⟨env, st⟩ a w) (hargs : RTL χ w G args vs)
    (hn : ids.Nodup) (hi : ∀ i ∈ ids, i < st.length) (ha : args = SV.rnL (fun j => ids.getD j 0) args') (hb : SV.inL ids.length args' = true)
    (ho : ids.map (fun i => st.getD i .gone) = obs.map (Ob.rn fun j => ids.getD j 0)) (hob : obs.all (Ob.inn ids.length) = true)
    (h : CallOk P f args' obs Q) :
    RunsTo P f vs.toArray w fun e w' => ∃ r v st', Q r st' ∧ e = .returned v ∧ Rel2 E ⟨env, backSt ids st st'⟩ a w' (r.rn (backN ids st.length)) v := by
  obtain ⟨χc, Gc, hgl, h1, h2, h3, _, h4⟩ := obj_step hfit hargs hn hi ha hb ho hob
  refine (h χc Gc w vs hgl h1 h2 h3).mono ?_
  rintro e w' ⟨r, v, st', χ1, G1, hQ, rfl, hr, hst1, hfr, hlen, hgle, hnone⟩
  obtain ⟨χ', G', q1, q2, _⟩ := h4 r v st' χ1 G1 w' hr hst1 hfr hlen hgle hnone
  exact ⟨r, v, st', hQ, rfl, q1.two q2⟩

theorem callIn_ok {f : FuncId} {args : List SV} {vs : List Value} {q : Option (SV → Prop)} {R : Res} (hfit : Fits E χ G ⟨env, st⟩ a w) (hargs : RTL χ w G args vs) (h : CallIn P f args st q R) :
    RunsTo P f vs.toArray w fun e w' => ∃ r v st', R r st' ∧ e = .returned v ∧ Rel2 E ⟨env, st'⟩ a w' r v := by
  cases h with
  | draw h hn hf k =>
    exact (call_pure hfit hargs h hn hf).mono fun e w' ⟨r, v, hq, he, hr⟩ => ⟨r, v, st, k r hq, he, hr⟩
  | pure q h hn hf k =>
    exact (call_pure hfit hargs h hn hf).mono fun e w' ⟨r, v, hq, he, hr⟩ => ⟨r, v, st, k r hq, he, hr⟩
  | obj ids args' obs Q hn hi ha hb ho hob h k =>
    exact (call_obj hfit hargs hn hi ha hb ho hob h).mono fun e w' ⟨r, v, st', hq, he, hr⟩ => ⟨_, v, _, k r st' hq, he, hr⟩

end
end Go.Sy
/- The walk's operations are what the model does: equality, maps. -/
set_option linter.all false
set_option maxHeartbeats 4000000
namespace Go.Sy
open Go.RowKit

section
variable {P : Program} {χ : Nat → Color} {w : World} {G : Gh}

theorem ptrT {t : TypeId} (h : isPtrT P t = true) : ∃ e, P.underlying t = some (.pointer e) := by
  unfold isPtrT at h
  split at h
  · exact ⟨_, by assumption⟩
  · cases h
theorem equal_ptr_nil {t e : TypeId} (ht : P.underlying t = some (.pointer e)) (b : Option Addr) : (Op.equal t (.pointer none) (.pointer b)).run P w = .ok b.isNone w := by
  have h : ∀ d : Nat, (Op.equalIn (d + 1) t (.pointer none) (.pointer b)).run P w = .ok b.isNone w := fun d => by simp [Op.equalIn, run_underlying ht]
  exact h 9999
theorem equal_ptr_some {t e : TypeId} (ht : P.underlying t = some (.pointer e)) (a : Addr) : (Op.equal t (.pointer (some a)) (.pointer none)).run P w = .ok false w := by
  have h : ∀ d : Nat, (Op.equalIn (d + 1) t (.pointer (some a)) (.pointer none)).run P w = .ok false w := fun d => by simp [Op.equalIn, run_underlying ht]
  exact h 9999

theorem eqSc_run {d : TypeDesc} {t : TypeId} {p q : PV} {b : Bool} {u v : Value} (ht : P.underlying t = some d) (h : eqSc d p q = some b) (hp : RP χ w p u) (hq : RP χ w q v) (n : Nat) (w' : World) :
    (Op.equalIn (n + 1) t u v).run P w' = .ok b w' := by
  unfold eqSc at h
  split at h
  · have hp : u = _ := hp
    have hq : v = _ := hq
    subst hp hq
    cases h
    simp [Op.equalIn, run_underlying ht]
  · have hp : u = _ := hp
    have hq : v = _ := hq
    subst hp hq
    split at h
    · rename_i hk
      have hk := of_decide_eq_true hk
      subst hk
      cases h
      simp [Op.equalIn, run_underlying ht]
    · cases h
  · have hp : u = _ := hp
    have hq : v = _ := hq
    subst hp hq
    cases h
    simp [Op.equalIn, run_underlying ht, beq_toListBytes]
  · cases h

theorem eqCs_nil {xs ys : List PV} {b : Bool} (h : eqCs [] xs ys = some b) : xs = [] ∧ ys = [] ∧ b = true := by
  cases xs <;> cases ys <;> simp [eqCs] at h
  exact ⟨rfl, rfl, h⟩
theorem eqCs_cons {d : TypeDesc} {ds : List TypeDesc} {xs ys : List PV} {b : Bool} (h : eqCs (d :: ds) xs ys = some b) :
    ∃ x xs' y ys' a c, xs = x :: xs' ∧ ys = y :: ys' ∧ eqSc d x y = some a ∧ eqCs ds xs' ys' = some c ∧ b = (a && c) := by
  cases xs with
  | nil => simp [eqCs] at h
  | cons x xs =>
    cases ys with
    | nil => simp [eqCs] at h
    | cons y ys =>
      unfold eqCs at h
      split at h
      · rename_i a ha
        split at h
        · rename_i c hc
          exact ⟨x, xs, y, ys, a, c, rfl, rfl, ha, hc, (Option.some.inj h).symm⟩
        · cases h
      · cases h

theorem part_one {t : TypeId} {xs : List PV} {us : List Value} {i : Nat} {x : PV} (hl : RL χ w xs us) (ha : isAggT P t = false) (hi : (P.info? t).isSome = true) (hu : (P.underlying t).isSome = true) (hx : xs[i]? = some x) :
    ∃ u, (part t us.toArray i).run P w = .ok u w ∧ RP χ w x u := by
  have hp : vcPart P t (.pure (.agg xs)) i fun s => s = .pure x := by
    unfold vcPart
    rw [must_iff]
    refine ⟨by simp [hi, hu], ?_⟩
    simp only [ha]
    refine ⟨(List.getElem?_eq_some_iff.1 hx).1, fun p hp => ?_⟩
    rw [hx] at hp
    cases hp
    rfl
  obtain ⟨cs, e, s, v, hR, hr, hs⟩ := part_run (χ := χ) (G := fun _ => none) (vx := .agg us.toArray) (show RS χ w _ (.pure (.agg xs)) _ from ⟨us, rfl, hl⟩) hp
  cases e
  subst hR
  exact ⟨v, hr, hs⟩

theorem eqF_run {xs ys : List PV} {us vs : List Value} (hx : RL χ w xs us) (hy : RL χ w ys vs) (n : Nat) : ∀ (fs : List Field) (i : Nat) (ds : List TypeDesc) (b : Bool), flatF P fs i = some ds → eqCs ds (xs.drop i) (ys.drop i) = some b →
    (Op.eqFields (n + 1) us.toArray vs.toArray fs).run P w = .ok b w
  | [], i, ds, b, h, he => by
    simp only [flatF, Option.some.injEq] at h
    subst h
    obtain ⟨_, _, rfl⟩ := eqCs_nil he
    simp [Op.eqFields]
  | f :: fs, i, ds, b, h, he => by
    unfold flatF at h
    split at h
    · rename_i hc
      simp only [Bool.and_eq_true, bne_iff_ne, ne_eq, beq_iff_eq, Bool.not_eq_true'] at hc
      obtain ⟨⟨⟨h1, h2⟩, h3⟩, h4⟩ := hc
      split at h
      · rename_i d hd
        split at h
        · rename_i r hr
          cases h
          obtain ⟨x, xs', y, ys', a, b', e2, e3, ha, hb', rfl⟩ := eqCs_cons he
          have hxi : xs[i]? = some x := by have := congrArg (fun l : List PV => l[0]?) e2; simpa using this
          have hyi : ys[i]? = some y := by have := congrArg (fun l : List PV => l[0]?) e3; simpa using this
          have hxd : xs.drop (i + 1) = xs' := by have := congrArg (fun l : List PV => l.drop 1) e2; simpa [List.drop_drop] using this
          have hyd : ys.drop (i + 1) = ys' := by have := congrArg (fun l : List PV => l.drop 1) e3; simpa [List.drop_drop] using this
          have ih := eqF_run hx hy n fs (i + 1) r b' hr (by rw [hxd, hyd]; exact hb')
          obtain ⟨u, hu1, hu2⟩ := part_one hx h3 h4 (by rw [hd]; rfl) hxi
          obtain ⟨v, hv1, hv2⟩ := part_one hy h3 h4 (by rw [hd]; rfl) hyi
          have he := eqSc_run hd ha hu2 hv2 n w
          simp only [Op.eqFields, h1, not_false_eq_true, if_true, ne_eq, h2, Sem.run_bind, hu1, hv1, he, Result.andThen_ok]
          cases a
          · simp
          · simpa using ih
        · cases h
      · cases h
    · cases h

theorem eqI_run {e : TypeId} {d : TypeDesc} {xs ys : List PV} {us vs : List Value} (hx : RL χ w xs us) (hy : RL χ w ys vs) (hd : P.underlying e = some d) (h3 : isAggT P e = false) (h4 : (P.info? e).isSome = true) (hsz : P.cellsOf e = 1) (n : Nat) : ∀ (m i : Nat) (b : Bool), eqCs (List.replicate m d) (xs.drop i) (ys.drop i) = some b →
    (Op.eqItems (n + 1) e (P.cellsOf e) us.toArray vs.toArray (List.range' i m)).run P w = .ok b w
  | 0, i, b, he => by
    obtain ⟨_, _, rfl⟩ := eqCs_nil he
    simp [Op.eqItems]
  | m + 1, i, b, he => by
    rw [List.replicate_succ] at he
    obtain ⟨x, xs', y, ys', a, b', e2, e3, ha, hb', rfl⟩ := eqCs_cons he
    have hxi : xs[i]? = some x := by have := congrArg (fun l : List PV => l[0]?) e2; simpa using this
    have hyi : ys[i]? = some y := by have := congrArg (fun l : List PV => l[0]?) e3; simpa using this
    have hxd : xs.drop (i + 1) = xs' := by have := congrArg (fun l : List PV => l.drop 1) e2; simpa [List.drop_drop] using this
    have hyd : ys.drop (i + 1) = ys' := by have := congrArg (fun l : List PV => l.drop 1) e3; simpa [List.drop_drop] using this
    have ih := eqI_run hx hy hd h3 h4 hsz n m (i + 1) b' (by rw [hxd, hyd]; exact hb')
    obtain ⟨u, hu1, hu2⟩ := part_one hx h3 h4 (by rw [hd]; rfl) hxi
    obtain ⟨v, hv1, hv2⟩ := part_one hy h3 h4 (by rw [hd]; rfl) hyi
    have he := eqSc_run hd ha hu2 hv2 n w
    rw [List.range'_succ]
    simp only [Op.eqItems, hsz, Nat.mul_one, Sem.run_bind, hu1, hv1, he, Result.andThen_ok]
    rw [hsz] at ih
    cases a
    · simp
    · simpa using ih

theorem eqPV_run {t : TypeId} {p q : PV} {b : Bool} {u v : Value} (h : eqPV P t p q = some b) (hp : RP χ w p u) (hq : RP χ w q v)  : (Op.equalIn 10000 t u v).run P w = .ok b w := by
  unfold eqPV at h
  split at h
  · rename_i xs
    split at h
    · rename_i ys
      obtain ⟨us, rfl, hx⟩ := hp
      obtain ⟨vs, rfl, hy⟩ := hq
      split at h
      · rename_i ds hds
        unfold flatT at hds
        split at hds
        · rename_i fs hu
          split at hds
          · cases hds
          · rename_i hst
            have hfo : P.fieldsOf t = fs := by unfold Program.fieldsOf; rw [hu]
            have := run_equalIn_struct (P := P) w 9999 t us.toArray vs.toArray (by rw [hfo]; exact hu) hst
            rw [this, hfo]
            exact eqF_run hx hy 9998 fs.toList 0 ds b hds (by simpa using h)
        · rename_i n e hu
          split at hds
          · rename_i d i hd hi
            split at hds
            · rename_i hc
              cases hds
              simp only [Bool.and_eq_true, Bool.not_eq_true', beq_iff_eq] at hc
              have hc := hc.1
              have := run_equalIn_array (P := P) (w := w) 9999 us.toArray vs.toArray hu hi
              rw [this, List.range_eq_range']
              exact eqI_run hx hy hd hc.1 (by rw [hi]; rfl) (by simp [Program.cellsOf, hi, hc.2]) 9998 n 0 b (by simpa using h)
            · cases hds
          · cases hds
        · cases hds
      · cases h
    · cases h
  · rename_i hna
    split at h
    · rename_i d hd
      exact eqSc_run hd h hp hq 9999 w
    · cases h

theorem eqSc_guard {d : TypeDesc} {t : TypeId} {p q : PV} {b : Bool} (ht : P.underlying t = some d) (h : eqSc d p q = some b) (n : Nat) : P.eqGuardType (n + 1) t = false := by
  unfold eqSc at h
  split at h
  · simp [Program.eqGuardType, ht]
  · simp [Program.eqGuardType, ht]
  · simp [Program.eqGuardType, ht]
  · cases h

theorem eqF_guard (n : Nat) : ∀ (fs : List Field) (i : Nat) (ds : List TypeDesc) (xs ys : List PV) (b : Bool), flatF P fs i = some ds → eqCs ds xs ys = some b →
    (fs.any fun f => f.name != "_" && P.eqGuardType (n + 1) f.type) = false
  | [], _, _, _, _, _, _, _ => rfl
  | f :: fs, i, ds, xs, ys, b, h, he => by
    unfold flatF at h
    split at h
    · split at h
      · rename_i d hd
        split at h
        · rename_i r hr
          cases h
          obtain ⟨x, xs', y, ys', a, b', e2, e3, ha, hb', rfl⟩ := eqCs_cons he
          have ih := eqF_guard n fs (i + 1) r xs' ys' b' hr hb'
          rw [List.any_cons, ih, eqSc_guard hd ha n]
          simp
        · cases h
      · cases h
    · cases h

theorem eqPV_guard {t : TypeId} {xs ys : List PV} {b : Bool} (h : eqPV P t (.agg xs) (.agg ys) = some b) : P.eqGuardType P.depth t = false := by
  obtain ⟨n, hn⟩ : ∃ n, P.depth = n + 2 := ⟨2 * (P.types.size + Made.depth), rfl⟩
  rw [hn]
  unfold eqPV at h
  simp only at h
  split at h
  · rename_i ds hds
    unfold flatT at hds
    split at hds
    · rename_i fs hu
      split at hds
      · cases hds
      · unfold Program.eqGuardType
        rw [hu]
        simp only
        rw [← Array.any_toList]
        exact eqF_guard n fs.toList 0 ds xs ys b hds h
    · rename_i m e hu
      split at hds
      · rename_i d i hd hi
        split at hds
        · cases hds
          unfold Program.eqGuardType
          rw [hu]
          simp only
          cases m with
          | zero => rename_i hc; simp at hc
          | succ m =>
            rw [List.replicate_succ] at h
            obtain ⟨x, xs', y, ys', a, b', e2, e3, ha, hb', rfl⟩ := eqCs_cons h
            exact eqSc_guard hd ha n
        · cases hds
      · cases hds
    · cases hds
  · cases h

end

section
variable {P : Program}
/-- What an operation without memory comes to. -/
theorem bin_run {P : Program} {χ : Nat → Color} {w : World} {G : Gh} {op : BinOp} {t : TypeId} {ox oy : Operand} {x y : SV} {vx vy : Value} {R : SV → Prop}
    (hx : RS χ w G x vx) (hy : RS χ w G y vy) (h : vcBin P op t x y R) :
    ∃ s v, R s ∧ (do eqGuard op t ox oy vx vy; binOp op t vx vy : Sem Value).run P w = .ok v w ∧ RS χ w G s v := by
  unfold vcBin at h
  simp only [onB_iff, iShl, iShr, iAnd, iOr, iXor, iAndNot] at h
  split at h
  · -- ints
    rename_i k a k' b
    simp only [RS_val] at hx hy
    subst hx hy
    cases op <;> simp only [must_iff, decide_eq_true_eq] at h
    case shl => exact scal h.2 (by simp [eqGuard, binOp, Op.shift]; intro h0; omega)
    case shr => exact scal h.2 (by simp [eqGuard, binOp, Op.shift]; intro h0; omega)
    case quo => obtain ⟨rfl, hb, h⟩ := h; exact scal h (by simp [eqGuard, binOp, Op.intDiv, hb])
    case rem => obtain ⟨rfl, hb, h⟩ := h; exact scal h (by simp [eqGuard, binOp, Op.intDiv, hb])
    all_goals
      obtain ⟨rfl, h⟩ := h
      exact scal h (by simp [eqGuard, binOp, Op.intArith, Op.intBits, Op.intCmp])
  · -- strings
    rename_i a b
    simp only [RS_val] at hx hy
    subst hx hy
    cases op <;> simp only [] at h <;> (try exact h.elim)
    case add => exact scal h.2 (by simp [eqGuard, binOp, Op.stringOp]; have h1 := h.1; omega)
    all_goals exact scal h (by simp [eqGuard, binOp, Op.stringOp])
  · rename_i a b
    simp only [RS_val] at hx hy
    subst hx hy
    simp only [must_iff] at h
    obtain ⟨ht, h⟩ := h
    have ht : P.underlying t = some .bool := by revert ht; split <;> simp_all
    cases op <;> simp only [] at h <;> (try exact h.elim)
    all_goals exact scal h (by simp [eqGuard, binOp, equal_bool ht])
  · rename_i sz nl xs
    obtain ⟨A, c, us, rfl, h2, h3, h4, h5, h6, h7⟩ := hx
    obtain ⟨A', c', us', rfl, h2', h3', h4', h5', h6', h7'⟩ := hy
    have hA' : A' = none := h5'.1 rfl
    subst hA'
    simp only [must_iff, bne_iff_ne, ne_eq] at h
    obtain ⟨ht, h⟩ := h
    have ht : ∃ e, P.underlying t = some (.slice e) := by
      unfold eszOf at ht
      split at ht
      · exact ⟨_, by assumption⟩
      · exact absurd rfl ht
    obtain ⟨e, ht⟩ := ht
    have hn : A.isNone = nl := by cases A <;> cases nl <;> simp_all
    cases op <;> simp only [] at h <;> (try exact h.elim)
    all_goals
      refine scal h ?_
      subst hn
      simp [eqGuard, binOp, equal_nil ht]
  · simp only [RS_val] at hx hy
    subst hx hy
    simp only [must_iff] at h
    obtain ⟨e, ht⟩ := ptrT h.1
    have h := h.2
    cases op <;> simp only [] at h <;> (try exact h.elim)
    all_goals exact scal h (by simp [eqGuard, binOp, equal_ptr_nil ht])
  · obtain ⟨g, hG, rfl⟩ := hx
    simp only [RS_val] at hy
    subst hy
    simp only [must_iff] at h
    obtain ⟨e, ht⟩ := ptrT h.1
    have h := h.2
    cases op <;> simp only [] at h <;> (try exact h.elim)
    all_goals exact scal h (by simp [eqGuard, binOp, equal_ptr_some ht])
  · obtain ⟨g, hG, rfl⟩ := hy
    simp only [RS_val] at hx
    subst hx
    simp only [must_iff] at h
    obtain ⟨e, ht⟩ := ptrT h.1
    have h := h.2
    cases op <;> simp only [] at h <;> (try exact h.elim)
    all_goals exact scal h (by simp [eqGuard, binOp, equal_ptr_nil ht])
  · rename_i xs ys
    split at h
    · rename_i c hc
      have hx' : RP χ w (.agg xs) vx := hx
      have hy' : RP χ w (.agg ys) vy := hy
      have hrun := eqPV_run hc hx' hy'
      have hgt := eqPV_guard (P := P) (t := t) hc
      obtain ⟨us, rfl, _⟩ := hx'
      obtain ⟨vs, rfl, _⟩ := hy'
      have hg : ∀ op, (eqGuard op t ox oy (.agg us.toArray) (.agg vs.toArray)).run P w = .ok () w := fun op => by
        unfold eqGuard
        cases op <;> simp [hgt]
      cases op <;> simp only [] at h <;> (try exact h.elim)
      all_goals
        refine scal h ?_
        rw [Sem.run_bind, hg]
        simp [binOp, Op.equal, Op.maxDepth, hrun]
    · exact h.elim
  · exact h.elim

end

section
variable {P : Program} {χ : Nat → Color} {w : World} {G : Gh}

theorem sb_bool (n : Nat) (a b : Bool) : Instr.sameBits n (.bool a) (.bool b) = (a == b) := by cases n <;> rfl
theorem sb_int (n : Nat) (k : IntKind) (a b : Int) : Instr.sameBits n (.int k a) (.int k b) = (a == b) := by
  have : ∀ j : IntKind, Instr.sameBits n (.int k a) (.int j b) = (k == j && a == b) := fun j => by cases n <;> rfl
  rw [this]; simp
theorem sb_str (n : Nat) (a b : ByteArray) : Instr.sameBits n (.string a) (.string b) = (a == b) := by cases n <;> rfl

theorem eqSc_same {d : TypeDesc} {p q : PV} {b : Bool} {u v : Value} (h : eqSc d p q = some b) (hp : RP χ w p u) (hq : RP χ w q v) :
    (∀ b', Instr.sameNow d u v = some b' → b' = b) ∧ (b = true → ∀ n, Instr.sameBits n v u = true) := by
  unfold eqSc at h
  split at h
  · have hp : u = _ := hp
    have hq : v = _ := hq
    subst hp hq
    cases h
    exact ⟨fun b' e => by simpa [Instr.sameNow] using e.symm, fun e n => by rw [sb_bool]; rw [beq_iff_eq] at e ⊢; exact e.symm⟩
  · have hp : u = _ := hp
    have hq : v = _ := hq
    subst hp hq
    split at h
    · rename_i hk
      have hk := of_decide_eq_true hk
      subst hk
      cases h
      exact ⟨fun b' e => by simpa [Instr.sameNow] using e.symm, fun e n => by rw [sb_int]; rw [beq_iff_eq] at e ⊢; exact e.symm⟩
    · cases h
  · rename_i a c
    have hp : u = _ := hp
    have hq : v = _ := hq
    subst hp hq
    cases h
    refine ⟨fun b' e => ?_, fun e n => ?_⟩
    · simp only [Instr.sameNow, Option.some.injEq] at e
      rw [← e, beq_toListBytes]
    · have e' : (c == a) = true := by rw [beq_toListBytes]; rw [beq_iff_eq] at e ⊢; exact e.symm
      rw [sb_str]; exact e'
  · cases h

theorem eqCs_same : ∀ (ds : List TypeDesc) {xs ys : List PV} {us vs : List Value}, RL χ w xs us → RL χ w ys vs → eqCs ds xs ys = some true →
    vs.length = us.length ∧ ∀ n, ((vs.zip us).all fun (x, y) => Instr.sameBits n x y) = true
  | ds, xs, ys, us, vs, hx, hy, h => by
    induction ds generalizing xs ys us vs with
    | nil =>
      obtain ⟨rfl, rfl, _⟩ := eqCs_nil h
      have hx : us = [] := hx
      have hy : vs = [] := hy
      subst hx hy
      exact ⟨rfl, fun _ => rfl⟩
    | cons d ds ih =>
      obtain ⟨x, xs', y, ys', a, b, rfl, rfl, ha, hb, hab⟩ := eqCs_cons h
      obtain ⟨rfl, rfl⟩ : a = true ∧ b = true := by simpa using hab.symm
      obtain ⟨u, r, rfl, _, hu, hr⟩ := hx
      obtain ⟨v, r', rfl, _, hv, hr'⟩ := hy
      obtain ⟨i1, i2⟩ := ih _ _ _ _ hr hr' hb
      refine ⟨by simp [i1], fun n => ?_⟩
      rw [List.zip_cons_cons, List.all_cons, i2 n]
      show (Instr.sameBits n v u && true) = true
      rw [(eqSc_same ha hu hv).2 rfl n]
      rfl

/-- Keys that are equal are the same bits; and what the model asks first does not part from it. -/
theorem eqPV_same {t : TypeId} {p q : PV} {b : Bool} {u v : Value} {d : TypeDesc} (ht : P.underlying t = some d) (h : eqPV P t p q = some b) (hp : RP χ w p u) (hq : RP χ w q v) :
    (∀ b', Instr.sameNow d u v = some b' → b' = b) ∧ (b = true → Instr.sameBits 10000 v u = true) := by
  unfold eqPV at h
  split at h
  · split at h
    · split at h
      · rename_i ds hds
        obtain ⟨us, rfl, hx⟩ := hp
        obtain ⟨vs, rfl, hy⟩ := hq
        refine ⟨fun b' e => by cases d <;> simp [Instr.sameNow] at e, fun e => ?_⟩
        subst e
        obtain ⟨h1, h2⟩ := eqCs_same ds hx hy h
        have : ∀ n, Instr.sameBits (n + 1) (.agg vs.toArray) (.agg us.toArray) = true := fun n => by
          simp only [Instr.sameBits, Bool.and_eq_true, beq_iff_eq]
          exact ⟨by simpa using h1, by simpa using h2 n⟩
        exact this 9999
      · cases h
    · cases h
  · rw [ht] at h
    obtain ⟨h1, h2⟩ := eqSc_same h hp hq
    exact ⟨h1, fun e => h2 e _⟩

theorem eqF_check {e0 : Bool} {xs : List PV} {us : List Value} (hx : RL χ w xs us) (n : Nat) : ∀ (fs : List Field) (i : Nat) (ds : List TypeDesc) (b : Bool), flatF P fs i = some ds → eqCs ds (xs.drop i) (xs.drop i) = some b →
    (forIn fs PUnit.unit fun f _ => do
      if f.name ≠ "_" then Instr.checkKey e0 (n + 1) f.type (← part f.type us.toArray f.offset)
      pure (ForInStep.yield PUnit.unit) : Sem PUnit).run P w = .ok () w
  | [], i, ds, b, h, he => by simp
  | f :: fs, i, ds, b, h, he => by
    unfold flatF at h
    split at h
    · rename_i hc
      simp only [Bool.and_eq_true, bne_iff_ne, ne_eq, beq_iff_eq, Bool.not_eq_true'] at hc
      obtain ⟨⟨⟨h1, h2⟩, h3⟩, h4⟩ := hc
      split at h
      · rename_i d hd
        split at h
        · rename_i r hr
          cases h
          obtain ⟨x, xs', y, ys', a, b', e2, e3, ha, hb', rfl⟩ := eqCs_cons he
          have e4 := e2.symm.trans e3
          simp only [List.cons.injEq] at e4
          obtain ⟨rfl, rfl⟩ := e4
          have hxi : xs[i]? = some x := by have := congrArg (fun l : List PV => l[0]?) e2; simpa using this
          have hxd : xs.drop (i + 1) = xs' := by have := congrArg (fun l : List PV => l.drop 1) e2; simpa [List.drop_drop] using this
          have ih := eqF_check (e0 := e0) hx n fs (i + 1) r b' hr (by rw [hxd]; exact hb')
          obtain ⟨u, hu1, hu2⟩ := part_one hx h3 h4 (by rw [hd]; rfl) hxi
          have hck : (Instr.checkKey e0 (n + 1) f.type u).run P w = .ok () w := by
            unfold eqSc at ha
            split at ha
            · simp [Instr.checkKey, run_underlying hd]
            · simp [Instr.checkKey, run_underlying hd]
            · simp [Instr.checkKey, run_underlying hd]
            · cases ha
          rw [List.forIn_cons]
          simp only [ne_eq, h1, not_false_eq_true, if_true, h2, Sem.run_bind, hu1, hck, Result.andThen_ok, Sem.run_pure]
          exact ih
        · cases h
      · cases h
    · cases h

theorem sizeOf_run' {t : TypeId} {ti : TypeInfo} (h : P.info? t = some ti) : (sizeOf t).run P w = .ok ti.size w := by simp [sizeOf, typeInfo, h]

theorem eqI_check {e0 : Bool} {e : TypeId} {ti : TypeInfo} {d : TypeDesc} {xs : List PV} {us : List Value} (hti : P.info? e = some ti) (hsz : ti.size = 1) (hx : RL χ w xs us) (hd : P.underlying e = some d) (h3 : isAggT P e = false) (h4 : (P.info? e).isSome = true) (n : Nat) : ∀ (m i : Nat) (b : Bool), eqCs (List.replicate m d) (xs.drop i) (xs.drop i) = some b →
    (forIn (List.range' i m) PUnit.unit fun i _ => do
      Instr.checkKey e0 (n + 1) e (← part e us.toArray (i * (← sizeOf e)))
      pure (ForInStep.yield PUnit.unit) : Sem PUnit).run P w = .ok () w
  | 0, i, b, he => by simp
  | m + 1, i, b, he => by
    rw [List.replicate_succ] at he
    obtain ⟨x, xs', y, ys', a, b', e2, e3, ha, hb', rfl⟩ := eqCs_cons he
    have e4 := e2.symm.trans e3
    simp only [List.cons.injEq] at e4
    obtain ⟨rfl, rfl⟩ := e4
    have hxi : xs[i]? = some x := by have := congrArg (fun l : List PV => l[0]?) e2; simpa using this
    have hxd : xs.drop (i + 1) = xs' := by have := congrArg (fun l : List PV => l.drop 1) e2; simpa [List.drop_drop] using this
    have ih := eqI_check (e0 := e0) hti hsz hx hd h3 h4 n m (i + 1) b' (by rw [hxd]; exact hb')
    obtain ⟨u, hu1, hu2⟩ := part_one hx h3 h4 (by rw [hd]; rfl) hxi
    have hck : (Instr.checkKey e0 (n + 1) e u).run P w = .ok () w := by
      unfold eqSc at ha
      split at ha
      · simp [Instr.checkKey, run_underlying hd]
      · simp [Instr.checkKey, run_underlying hd]
      · simp [Instr.checkKey, run_underlying hd]
      · cases ha
    rw [List.range'_succ, List.forIn_cons]
    have hs1 : (sizeOf e).run P w = .ok 1 w := by rw [← hsz]; exact sizeOf_run' hti
    simp [hs1, hu1, hck]
    simpa using ih

theorem checkKey_run {e0 : Bool} {t : TypeId} {p : PV} {u : Value} (h : (eqPV P t p p).isSome = true) (hp : RP χ w p u) : (Instr.checkKey e0 10000 t u).run P w = .ok () w := by
  obtain ⟨b, h⟩ := Option.isSome_iff_exists.1 h
  have key : ∀ n, (Instr.checkKey e0 (n + 2) t u).run P w = .ok () w := fun n => by
    cases p with
    | agg xs =>
      unfold eqPV at h
      simp only at h
      split at h
      · rename_i ds hds
        obtain ⟨us, rfl, hx⟩ := hp
        unfold flatT at hds
        split at hds
        · rename_i fs hu
          split at hds
          · cases hds
          · have := eqF_check (P := P) (e0 := e0) hx n fs.toList 0 ds b hds (by simpa using h)
            unfold Instr.checkKey
            simp only [Sem.run_bind, run_underlying hu, Result.andThen_ok]
            rw [← Array.forIn_toList]
            simp at this ⊢
            rw [this]
            rfl
        · rename_i m e hu
          split at hds
          · rename_i d i hd hi
            split at hds
            · rename_i hc
              cases hds
              simp only [Bool.and_eq_true, Bool.not_eq_true', beq_iff_eq] at hc
              have := eqI_check (P := P) (e0 := e0) hi hc.1.2 hx hd hc.1.1 (by rw [hi]; rfl) n m 0 b (by simpa using h)
              unfold Instr.checkKey
              simp only [Sem.run_bind, run_underlying hu, Result.andThen_ok]
              simp [Std.Legacy.Range.forIn_eq_forIn_range', Std.Legacy.Range.size] at this ⊢
              rw [this]
              rfl
            · cases hds
          · cases hds
        · cases hds
      · cases h
    | val v =>
      unfold eqPV at h
      simp only at h
      split at h
      · rename_i d hd
        unfold eqSc at h
        split at h
        · simp [Instr.checkKey, run_underlying hd]
        · simp [Instr.checkKey, run_underlying hd]
        · simp [Instr.checkKey, run_underlying hd]
        · cases h
      · cases h
    | list sz nl xs =>
      unfold eqPV at h
      simp only at h
      split at h
      · unfold eqSc at h
        split at h
        · rename_i hh _; cases hh
        · rename_i hh _; cases hh
        · rename_i hh _; cases hh
        · cases h
      · cases h
  exact key 9998
end
end Go.Sy
/- The walk's operations are what the model does: maps. -/
set_option linter.all false
set_option maxHeartbeats 4000000
namespace Go.Sy
open Go.RowKit

section
variable {P : Program} {χ : Nat → Color} {w : World} {G : Gh}

theorem findPV_ge {t : TypeId} {k : PV} : ∀ (es : List (PV × PV)) (i : Nat) {j : Nat} {v : PV}, findPV P t k es i = some (some (j, v)) → i ≤ j ∧ ∃ k', es[j - i]? = some (k', v) ∧ eqPV P t k k' = some true
  | [], i, j, v, h => by cases h
  | e :: es, i, j, v, h => by
    unfold findPV at h
    split at h
    · rename_i he
      cases h
      exact ⟨Nat.le_refl _, e.1, by simp, he⟩
    · obtain ⟨h1, k', h2, h3⟩ := findPV_ge es (i + 1) h
      refine ⟨by omega, k', ?_, h3⟩
      rw [show j - i = (j - (i + 1)) + 1 by omega]
      simpa using h2
    · cases h

def resOf (l : List MapEntry) (i : Nat) (r : Option (Nat × PV)) : Option (Nat × Value) := r.map fun x => (x.1, ((l[x.1 - i]?).map (·.val)).getD undef)

theorem resOf_cons {e : MapEntry} {l : List MapEntry} {i : Nat} {r : Option (Nat × PV)} (h : ∀ x, r = some x → i + 1 ≤ x.1) : resOf (e :: l) i r = resOf l (i + 1) r := by
  cases r with
  | none => rfl
  | some x =>
    have := h x rfl
    unfold resOf
    simp only [Option.map_some]
    rw [show x.1 - i = (x.1 - (i + 1)) + 1 by omega]
    simp

theorem findAsk_run {t : TypeId} {k : PV} {u : Value} (hk : RP χ w k u) : ∀ (es : List (PV × PV)) (l : List MapEntry) (i : Nat) (r : Option (Nat × PV)), RM χ w es l → findPV P t k es i = some r →
    (Instr.findAsking t u l i).run P w = .ok (resOf l i r) w
  | [], l, i, r, hm, h => by
    have hm : l = [] := hm
    subst hm
    cases h
    rfl
  | (k', v) :: es, l, i, r, hm, h => by
    obtain ⟨e, l, rfl, h1, h2, h3⟩ := hm
    unfold findPV at h
    split at h
    · rename_i he
      cases h
      have := eqPV_run he hk h1
      simp [Instr.findAsking, Op.equal, Op.maxDepth, this, resOf]
    · rename_i he
      have hr := eqPV_run he hk h1
      have ih := findAsk_run hk es l (i + 1) r h3 h
      rw [resOf_cons (fun x e => by subst e; exact (findPV_ge es (i + 1) h).1)]
      simp [Instr.findAsking, Op.equal, Op.maxDepth, hr, ih]
    · cases h

theorem findNow_eq {t : TypeId} {d : TypeDesc} (ht : P.underlying t = some d) {k : PV} {u : Value} (hk : RP χ w k u) : ∀ (es : List (PV × PV)) (l : List MapEntry) (i : Nat) (r : Option (Nat × PV)), RM χ w es l → findPV P t k es i = some r →
    ∀ x, Instr.findNow d u l i = some x → x = resOf l i r
  | [], l, i, r, hm, h, x, hx => by
    have hm : l = [] := hm
    subst hm
    cases h
    simpa [Instr.findNow, resOf] using hx.symm
  | (k', v) :: es, l, i, r, hm, h, x, hx => by
    obtain ⟨e, l, rfl, h1, h2, h3⟩ := hm
    unfold findPV at h
    unfold Instr.findNow at hx
    split at h
    · rename_i he
      have hs := (eqPV_same ht he hk h1).1
      cases h
      split at hx
      · cases hx; simp [resOf]
      · rename_i hh; exact absurd (hs _ hh) (by simp)
      · cases hx
    · rename_i he
      have hs := (eqPV_same ht he hk h1).1
      split at hx
      · rename_i hh; exact absurd (hs _ hh) (by simp)
      · rw [resOf_cons (fun x e => by subst e; exact (findPV_ge es (i + 1) h).1)]
        exact findNow_eq ht hk es l (i + 1) r h3 h x hx
      · cases hx
    · cases h

theorem findKey_run {t : TypeId} {d : TypeDesc} (ht : P.underlying t = some d) {k : PV} {u : Value} (hk : RP χ w k u) {es : List (PV × PV)} {l : List MapEntry} {r : Option (Nat × PV)} (hm : RM χ w es l) (h : findPV P t k es 0 = some r) :
    (Instr.findKey t u l).run P w = .ok (resOf l 0 r) w := by
  unfold Instr.findKey
  simp only [Sem.run_bind, run_underlying ht, Result.andThen_ok]
  split
  · rename_i x hx
    rw [findNow_eq ht hk es l 0 r hm h x hx]
    rfl
  · exact findAsk_run hk es l 0 r hm h

theorem eqPV_under {t : TypeId} {p q : PV} {b : Bool} (h : eqPV P t p q = some b) : ∃ d, P.underlying t = some d := by
  unfold eqPV at h
  split at h
  · split at h
    · split at h
      · rename_i hds
        unfold flatT at hds
        split at hds
        · exact ⟨_, by assumption⟩
        · exact ⟨_, by assumption⟩
        · cases hds
      · cases h
    · cases h
  · split at h
    · exact ⟨_, by assumption⟩
    · cases h

theorem RM.get : ∀ {es : List (PV × PV)} {l : List MapEntry}, RM χ w es l → ∀ {i : Nat} {x : PV × PV}, es[i]? = some x → ∃ e, l[i]? = some e ∧ RP χ w x.1 e.key ∧ RP χ w x.2 e.val
  | [], l, h, i, x, hx => by simp at hx
  | (k, v) :: es, l, ⟨e, t, h1, h2, h3, h4⟩, i, x, hx => by
    subst h1
    cases i with
    | zero => simp at hx; subst hx; exact ⟨e, rfl, h2, h3⟩
    | succ i => simpa using RM.get h4 (by simpa using hx)

theorem mapT_of {t : TypeId} {kz : TypeId × Value} (h : mapT P t = some kz) : ∃ e i, P.underlying t = some (.map kz.1 e) ∧ P.info? e = some i ∧ i.zero = some kz.2 := by
  unfold mapT at h
  split at h
  · split at h
    · split at h
      · cases h; exact ⟨_, _, by assumption, by assumption, by assumption⟩
      · cases h
    · cases h
  · cases h

theorem lkRes_ok {z : Value} {c : Bool} {r : Option (Nat × PV)} {x : Value × Bool} (h : match r with | some y => x.2 = true ∧ RP χ w y.2 x.1 | none => x = (z, false)) :
    RS χ w G (lkRes z c r) (if c = true then .tuple #[x.1, .bool x.2] else x.1) := by
  unfold lkRes
  cases r with
  | some y =>
    obtain ⟨h1, h2⟩ := h
    cases c
    · exact h2
    · exact ⟨[x.1, .bool x.2], rfl, _, _, rfl, h2, _, _, rfl, by rw [h1]; rfl, rfl⟩
  | none =>
    obtain rfl := h
    cases c
    · exact RP_ofV χ w z
    · exact ⟨[z, .bool false], rfl, _, _, rfl, RP_ofV χ w z, _, _, rfl, rfl, rfl⟩

theorem lookup_ok {t : TypeId} {x k : SV} {vx vk : Value} {c : Bool} {st : List Ob} {R : SV → Prop} (hx : RS χ w G x vx) (hk : RS χ w G k vk) (hst : RSt χ w G st) (h : vcLookup P t x k c st R) :
    ∃ s v, R s ∧ (Instr.lookup t vx vk c).run P w = .ok v w ∧ RS χ w G s v := by
  unfold vcLookup at h
  split at h
  · rename_i kz hkz
    obtain ⟨e, i, hu, hi, hz⟩ := mapT_of hkz
    split at h
    · rename_i kp
      simp only [must_iff] at h
      obtain ⟨heq, h⟩ := h
      have hkp : RP χ w kp vk := hk
      have hck : ∀ b, (Instr.checkKey b 10000 kz.1 vk).run P w = .ok () w := fun b => checkKey_run heq hkp
      obtain ⟨b0, hb0⟩ := Option.isSome_iff_exists.1 heq
      obtain ⟨d, hd⟩ := eqPV_under hb0
      have hzr : (zeroValue e).run P w = .ok kz.2 w := by simp [zeroValue, typeInfo, hi, hz]
      split at h
      · rename_i o
        split at h
        · rename_i es hob
          obtain ⟨r, hr, hR⟩ := h
          obtain ⟨g, hG, rfl⟩ := hx
          obtain ⟨g', l, clock, hG', hcol, hheap, hm, _⟩ := hst _ _ hob
          rw [hG] at hG'
          injection hG' with hG'
          injection hG' with hG'
          subst hG'
          have hgo : (getObj g).run P w = .ok (.map (List.toArray l) clock) w := by simp [getObj, Sem.run, hheap]
          have hf := findKey_run hd hkp hm hr
          cases r with
          | none =>
            have hf' : (Instr.findKey kz.1 vk l).run P w = .ok none w := hf
            refine ⟨_, _, hR, ?_, lkRes_ok (x := (kz.2, false)) rfl⟩
            unfold Instr.lookup
            simp only [Sem.run_bind, run_underlying hu, hgo, Result.andThen_ok, Sem.run_pure, hck, hf', hzr]
          | some y =>
            obtain ⟨j, v⟩ := y
            obtain ⟨_, k', h2, _⟩ := findPV_ge es 0 hr
            obtain ⟨en, q1, q2, q3⟩ := hm.get h2
            have hf' : (Instr.findKey kz.1 vk l).run P w = .ok (some (j, en.val)) w := by
              rw [hf]
              unfold resOf
              simp only [Option.map_some, q1, Option.getD_some]
            refine ⟨_, _, hR, ?_, lkRes_ok (x := (en.val, true)) ⟨rfl, q3⟩⟩
            unfold Instr.lookup
            simp only [Sem.run_bind, run_underlying hu, hgo, Result.andThen_ok, Sem.run_pure, hck, hf', hzr]
        · exact h.elim
      · have hx : vx = .map none := hx
        subst hx
        have hf : (Instr.findKey kz.1 vk []).run P w = .ok none w := findKey_run (es := []) hd hkp rfl rfl
        refine ⟨_, _, h, ?_, lkRes_ok (x := (kz.2, false)) rfl⟩
        unfold Instr.lookup
        simp only [Sem.run_bind, run_underlying hu, Result.andThen_ok, Sem.run_pure, hck, hf, hzr]
      · exact h.elim
    · exact h.elim
  · exact h.elim

theorem RM.set {k v : PV} {key val : Value} (hk : RP χ w k key) (hv : RP χ w v val) : ∀ {es : List (PV × PV)} {l : List MapEntry}, RM χ w es l → ∀ (i : Nat), RM χ w (es.set i (k, v)) (l.modify i fun e => { e with key := key, val := val })
  | [], l, h, i => by have h : l = [] := h; subst h; cases i <;> exact rfl
  | (k', v') :: es, l, ⟨e, t, h1, h2, h3, h4⟩, i => by
    subst h1
    cases i with
    | zero => exact ⟨_, t, rfl, hk, hv, h4⟩
    | succ i => exact ⟨e, _, rfl, h2, h3, RM.set hk hv h4 i⟩
theorem RM.snoc {k v : PV} {en : MapEntry} (hk : RP χ w k en.key) (hv : RP χ w v en.val) : ∀ {es : List (PV × PV)} {l : List MapEntry}, RM χ w es l → RM χ w (es ++ [(k, v)]) (l ++ [en])
  | [], l, h => by have h : l = [] := h; subst h; exact ⟨en, [], rfl, hk, hv, rfl⟩
  | (k', v') :: es, l, ⟨e, t, h1, h2, h3, h4⟩ => by subst h1; exact ⟨e, _, rfl, h2, h3, RM.snoc hk hv h4⟩
theorem RM.erase : ∀ {es : List (PV × PV)} {l : List MapEntry}, RM χ w es l → ∀ (i : Nat), RM χ w (es.eraseIdx i) (l.eraseIdx i)
  | [], l, h, i => by have h : l = [] := h; subst h; exact rfl
  | (k', v') :: es, l, ⟨e, t, h1, h2, h3, h4⟩, i => by
    subst h1
    cases i with
    | zero => exact h4
    | succ i => exact ⟨e, _, rfl, h2, h3, RM.erase h4 i⟩

theorem map_erase_born (l : List MapEntry) (i : Nat) : (l.eraseIdx i).map (·.born) = (l.map (·.born)).eraseIdx i := by
  induction l generalizing i with
  | nil => rfl
  | cons e l ih => cases i with
    | zero => rfl
    | succ i => simp only [List.eraseIdx_cons_succ, List.map_cons, ih]
theorem map_modify_born (l : List MapEntry) (i : Nat) (key val : Value) : (l.modify i fun e => { e with key := key, val := val }).map (·.born) = l.map (·.born) := by
  induction l generalizing i with
  | nil => cases i <;> rfl
  | cons e l ih => cases i with
    | zero => rfl
    | succ i => simp only [List.modify_succ_cons, List.map_cons, ih]
end

section
variable {P : Program} {E : Ent} {env : List SV} {st : List Ob} {a : Act} {w : World} {χ : Nat → Color} {G : Gh}

/-- A map's block written anew. -/
theorem Fits.setMap {o g : Nat} {es es2 : List (PV × PV)} {l l2 : List MapEntry} {clock clock2 : Nat} (hf : Fits E χ G ⟨env, st⟩ a w) (hob : st[o]? = some (.map es)) (hG : G o = some (.fix g)) (hcol : χ g = .own o)
    (hheap : w.heap[g]? = some (.map (List.toArray l) clock)) (hm : RM χ w es2 l2) (hb : ∀ e ∈ l2, e.born < clock2) (hn : (l2.map (·.born)).Nodup) :
    Fits E χ G ⟨env, st.set o (.map es2)⟩ a { w with heap := w.heap.setIfInBounds g (.map (List.toArray l2) clock2) } := by
  have hlt : o < st.length := (List.getElem?_eq_some_iff.1 hob).1
  have hg := (Array.getElem?_eq_some_iff.1 hheap).1
  have hbl : ∀ b, b ≠ g → ({ w with heap := w.heap.setIfInBounds g (.map (List.toArray l2) clock2) } : World).heap[b]? = w.heap[b]? := fun b hb => by
    simp only [Array.getElem?_setIfInBounds, if_neg (Ne.symm hb)]
  have hk : Keep χ w χ { w with heap := w.heap.setIfInBounds g (.map (List.toArray l2) clock2) } := fun b hlt hi => ⟨hi, hbl b (fun e => by rw [e, hcol] at hi; cases hi)⟩
  refine hf.set (χ' := χ) (G' := G) hlt rfl rfl rfl (by simp) (fun b hb hne => ⟨rfl, hbl b (fun e => hne (by rw [e]; exact hcol))⟩) (fun _ _ => rfl) ⟨fun g hg => hg, fun n hd hh => ⟨n, hd, hh, Nat.le_refl _, fun _ => rfl⟩⟩ ?_
  exact ⟨g, l2, clock2, hG, hcol, by simp only [Array.getElem?_setIfInBounds, if_true, if_pos hg], RM.mono hk _ _ hm, hb, hn⟩

theorem mapUpdate_ok {t : TypeId} {x k v : SV} {vx vk vv : Value} {R : Res} (hf : Fits E χ G ⟨env, st⟩ a w) (hx : RS χ w G x vx) (hk : RS χ w G k vk) (hv : RS χ w G v vv) (h : vcMapUpdate P t x k v st R) :
    ∃ s st' w', R s st' ∧ (Instr.mapUpdate t vx vk vv).run P w = .ok () w' ∧ Rel2 E ⟨env, st'⟩ a w' s undef := by
  unfold vcMapUpdate at h
  split at h
  · rename_i kz hkz
    obtain ⟨e, i, hu, hi, hz⟩ := mapT_of hkz
    split at h
    · rename_i kp
      simp only [must_iff] at h
      obtain ⟨heq, h⟩ := h
      have hkp : RP χ w kp vk := hk
      obtain ⟨b0, hb0⟩ := Option.isSome_iff_exists.1 heq
      obtain ⟨d, hd⟩ := eqPV_under hb0
      split at h
      · rename_i o
        obtain ⟨g, hG, rfl⟩ := hx
        obtain ⟨χ', vp, st', h, hf', him, hvp⟩ := pure_ok hf hv h
        have hkp' : RP χ' w kp vk := RP.mono (him.keep w) _ _ hkp
        have hck : ∀ b, (Instr.checkKey b 10000 kz.1 vk).run P w = .ok () w := fun b => checkKey_run heq hkp
        split at h
        · rename_i es hob
          obtain ⟨r, hr, hR⟩ := h
          obtain ⟨g', l, clock, hG', hcol, hheap, hm, hborn, hnd⟩ := hf'.2.1 _ _ hob
          rw [hG] at hG'
          injection hG' with hG'
          injection hG' with hG'
          subst hG'
          have hgo : (getObj g).run P w = .ok (.map (List.toArray l) clock) w := by simp [getObj, Sem.run, hheap]
          have hso : ∀ ob, (setObj g ob).run P w = .ok () { w with heap := w.heap.setIfInBounds g ob } := fun ob => by simp [setObj, Sem.run, hheap]
          have hfk := findKey_run hd hkp' hm hr
          cases r with
          | none =>
            have hfk' : (Instr.findKey kz.1 vk l).run P w = .ok none w := hfk
            refine ⟨_, _, { w with heap := w.heap.setIfInBounds g (.map (List.toArray (l ++ [{ key := vk, val := vv, born := clock }])) (clock + 1)) }, hR, ?_, (hf'.setMap hob hG hcol hheap (hm.snoc (en := { key := vk, val := vv, born := clock }) hkp' hvp) (fun e he => ?_) ?_).two trivial⟩
            · unfold Instr.mapUpdate
              simp only [Sem.run_bind, run_underlying hu, hgo, Result.andThen_ok, Sem.run_pure, hck, hfk', hso, List.push_toArray]
            · rcases List.mem_append.1 he with h1 | h1
              · have := hborn e h1; omega
              · rw [List.mem_singleton.1 h1]; exact Nat.lt_succ_self _
            · rw [List.map_append, List.nodup_append]
              refine ⟨hnd, by simp, fun x hx y hy => ?_⟩
              obtain ⟨e, he, rfl⟩ := List.mem_map.1 hx
              have h1 := hborn e he
              have hy : y = clock := by simpa using hy
              subst hy
              exact Nat.ne_of_lt h1
          | some y =>
            obtain ⟨j, v'⟩ := y
            obtain ⟨_, k', h2, h3⟩ := findPV_ge es 0 hr
            rw [Nat.sub_zero] at h2
            obtain ⟨en, q1, q2, q3⟩ := hm.get h2
            have hfk' : (Instr.findKey kz.1 vk l).run P w = .ok (some (j, en.val)) w := by
              rw [hfk]
              unfold resOf
              simp only [Option.map_some, Nat.sub_zero, q1, Option.getD_some]
            have hsb : Instr.sameBits 10000 en.key vk = true := (eqPV_same hd h3 hkp' q2).2 rfl
            have hkt : (Instr.keyThatStays en.key vk).run P w = .ok vk w := by simp [Instr.keyThatStays, hsb]
            have hold : (((List.toArray l)[j]?).map (·.key)).getD vk = en.key := by simp [q1]
            refine ⟨_, _, { w with heap := w.heap.setIfInBounds g (.map (List.toArray (l.modify j fun e => { e with key := vk, val := vv })) clock) }, hR, ?_, (hf'.setMap hob hG hcol hheap (hm.set hkp' hvp j) (fun e he => ?_) ?_).two trivial⟩
            · unfold Instr.mapUpdate
              simp only [Sem.run_bind, run_underlying hu, hgo, Result.andThen_ok, Sem.run_pure, hck, hfk', hold, hkt, hso]
              simp
            · have : e.born ∈ (l.modify j fun e => { e with key := vk, val := vv }).map (·.born) := List.mem_map_of_mem he
              rw [map_modify_born] at this
              obtain ⟨e', he', h1⟩ := List.mem_map.1 this
              rw [← h1]
              exact hborn e' he'
            · rw [map_modify_born]; exact hnd
        · exact h.elim
      · exact h.elim
    · exact h.elim
  · exact h.elim

theorem delete_ok {t t' ty : TypeId} {x k : SV} {vx vk : Value} {R : Res} (hf : Fits E χ G ⟨env, st⟩ a w) (hx : RS χ w G x vx) (hk : RS χ w G k vk) (h : vcDelete P t x k st R) :
    ∃ s v st' w', R s st' ∧ (Builtin.delete_ #[t, t'] ty #[vx, vk]).run P w = .ok v w' ∧ Rel2 E ⟨env, st'⟩ a w' s v := by
  unfold vcDelete at h
  split at h
  · rename_i kz hkz
    obtain ⟨e, i, hu, hi, hz⟩ := mapT_of hkz
    split at h
    · rename_i kp
      simp only [must_iff] at h
      obtain ⟨heq, h⟩ := h
      have hkp : RP χ w kp vk := hk
      have hck : ∀ b, (Instr.checkKey b 10000 kz.1 vk).run P w = .ok () w := fun b => checkKey_run heq hkp
      obtain ⟨b0, hb0⟩ := Option.isSome_iff_exists.1 heq
      obtain ⟨d, hd⟩ := eqPV_under hb0
      split at h
      · rename_i o
        split at h
        · rename_i es hob
          obtain ⟨r, hr, hR⟩ := h
          obtain ⟨g, hG, rfl⟩ := hx
          obtain ⟨g', l, clock, hG', hcol, hheap, hm, hborn, hnd⟩ := hf.2.1 _ _ hob
          rw [hG] at hG'
          injection hG' with hG'
          injection hG' with hG'
          subst hG'
          have hgo : (getObj g).run P w = .ok (.map (List.toArray l) clock) w := by simp [getObj, Sem.run, hheap]
          have hso : ∀ ob, (setObj g ob).run P w = .ok () { w with heap := w.heap.setIfInBounds g ob } := fun ob => by simp [setObj, Sem.run, hheap]
          have hfk := findKey_run hd hkp hm hr
          cases r with
          | none =>
            have hfk' : (Instr.findKey kz.1 vk l).run P w = .ok none w := hfk
            refine ⟨_, .tuple #[], _, { w with heap := w.heap.setIfInBounds g (.map (List.toArray l) clock) }, hR, ?_, (hf.setMap hob hG hcol hheap hm hborn hnd).two ⟨[], rfl, rfl⟩⟩
            unfold Builtin.delete_
            simp [run_underlying hu, hgo, hck, hfk', hso]
          | some y =>
            obtain ⟨j, v'⟩ := y
            obtain ⟨_, k', h2, h3⟩ := findPV_ge es 0 hr
            rw [Nat.sub_zero] at h2
            obtain ⟨en, q1, q2, q3⟩ := hm.get h2
            have hfk' : (Instr.findKey kz.1 vk l).run P w = .ok (some (j, en.val)) w := by
              rw [hfk]
              unfold resOf
              simp only [Option.map_some, Nat.sub_zero, q1, Option.getD_some]
            have hjl : j < l.length := (List.getElem?_eq_some_iff.1 q1).1
            refine ⟨_, .tuple #[], _, { w with heap := w.heap.setIfInBounds g (.map (List.toArray (l.eraseIdx j)) clock) }, hR, ?_, (hf.setMap hob hG hcol hheap (hm.erase j) (fun e he => hborn e (List.mem_of_mem_eraseIdx he)) ?_).two ⟨[], rfl, rfl⟩⟩
            · unfold Builtin.delete_
              simp [run_underlying hu, hgo, hck, hfk', hso, hjl]
            · rw [map_erase_born]
              exact hnd.sublist (List.eraseIdx_sublist _ _)
        · exact h.elim
      · exact h.elim
    · exact h.elim
  · exact h.elim

theorem makeMap_ok {t : TypeId} (hf : Fits E χ G ⟨env, st⟩ a w) :
    ∃ v w', (Instr.makeMap t none).run P w = .ok v w' ∧ Rel2 E ⟨env, st ++ [.map []]⟩ a w' (.mref st.length) v := by
  have h7 := hf.2.2.2.2.2.2 st.length (Nat.le_refl _)
  refine ⟨.map (some w.heap.size), w.alloc (.map #[] 0), by simp [Instr.makeMap], ?_⟩
  refine (hf.new (χ' := upF χ w.heap.size (.own st.length)) (G' := upF G st.length (some (.fix w.heap.size))) (w' := w.alloc (.map #[] 0)) (ob := .map []) rfl rfl rfl (by simp) (fun b hb => ⟨upF_ne _ _ (by omega), Below.heap_alloc w _ b hb⟩) (fun o' ho' => upF_ne _ _ ho') ?_).two ⟨w.heap.size, upF_same _ _ _, rfl⟩
  exact ⟨w.heap.size, [], 0, upF_same _ _ _, upF_same _ _ _, heap_alloc_new w _, rfl, by simp, by simp⟩

/-! ### maps ranged over -/
theorem range_ok {t : TypeId} {x : SV} {vx : Value} {R : Res} (hf : Fits E χ G ⟨env, st⟩ a w) (hx : RS χ w G x vx) (h : vcRange P t x st R) :
    ∃ s v st' w', R s st' ∧ (Instr.range t vx).run P w = .ok v w' ∧ Rel2 E ⟨env, st'⟩ a w' s v := by
  unfold vcRange at h
  split at h
  · rename_i kt et hu
    split at h
    · rename_i mo
      split at h
      · rename_i es hst
        obtain ⟨g0, hG0, rfl⟩ := hx
        obtain ⟨g, es', clock, k1, k2, k3, k4, k5, k6⟩ := hf.2.1 mo _ hst
        rw [hG0] at k1
        injection k1 with k1
        injection k1 with k1
        subst k1
        have hlt := (List.getElem?_eq_some_iff.1 hst).1
        have hgl : g0 < w.heap.size := (Array.getElem?_eq_some_iff.1 k3).1
        have h7 := hf.2.2.2.2.2.2 st.length (Nat.le_refl _)
        -- the map is lent to the new object
        have hf1 : Fits E (upF χ g0 (.own st.length)) G ⟨env, st.set mo .gone⟩ a w :=
          hf.set hlt rfl rfl rfl (Nat.le_refl _) (fun b hb hne => ⟨upF_ne _ _ (fun e => hne (by rw [e]; exact k2)), rfl⟩) (fun _ _ => rfl) ⟨fun g hg => hg, fun n hd hh => ⟨n, hd, hh, Nat.le_refl _, fun _ => rfl⟩⟩ trivial
        have hl2 : (st.set mo .gone).length = st.length := List.length_set ..
        have hmo : mo ≠ st.length := by omega
        have hg0 : g0 ≠ w.heap.size := by omega
        have hk : Keep χ w (upF (upF χ g0 (.own st.length)) w.heap.size (.own st.length)) (w.alloc (.mapIter (some g0) clock #[] clock)) := fun b hb hi =>
          ⟨by rw [upF_ne _ _ (by omega), upF_ne _ _ (fun e => by rw [e, k2] at hi; cases hi)]; exact hi, Below.heap_alloc w _ b hb⟩
        have hf2 := hf1.new (χ' := upF (upF χ g0 (.own st.length)) w.heap.size (.own st.length)) (G' := upF G (st.set mo .gone).length (some (.fix w.heap.size))) (w' := w.alloc (.mapIter (some g0) clock #[] clock)) (ob := .iter mo es es none) rfl rfl rfl (by simp)
          (fun b hb => ⟨upF_ne _ _ (by omega), Below.heap_alloc w _ b hb⟩) (fun o' ho' => upF_ne _ _ ho')
          ⟨w.heap.size, g0, es', clock, clock, #[], clock, upF_same _ _ _, by rw [upF_ne _ _ (by rw [hl2]; exact hmo)]; exact hG0, by rw [hl2]; exact upF_same _ _ _, by rw [hl2, upF_ne _ _ hg0]; exact upF_same _ _ _,
            by rw [Below.heap_alloc w _ g0 hgl]; exact k3, RM.mono hk _ _ k4, k5, k6, heap_alloc_new w _, k5, Nat.le_refl _, Nat.le_refl _, by rw [show (es'.filter fun e => !(#[] : Array Nat).contains e.born) = es' from List.filter_eq_self.2 (by simp)]; exact RM.mono hk _ _ k4, fun c hc => (by cases hc)⟩
        exact ⟨_, .pointer (some ⟨w.heap.size, 0, none⟩), _, _, h, run_range_map (P := P) w t kt et g0 (List.toArray es') clock hu k3, hf2.two ⟨w.heap.size, by rw [hl2]; exact upF_same _ _ _, rfl⟩⟩
      · exact h.elim
    · exact h.elim
  · exact h.elim

theorem RM_pick {χ : Nat → Color} {w : World} : ∀ {left : List (PV × PV)} {l : List MapEntry} {e : MapEntry}, RM χ w left l → e ∈ l → (l.map (·.born)).Nodup →
    ∃ l1 x l2, left = l1 ++ x :: l2 ∧ RP χ w x.1 e.key ∧ RP χ w x.2 e.val ∧ RM χ w (l1 ++ l2) (l.filter fun y => y.born != e.born)
  | [], l, e, h, he, _ => by have : l = [] := h; subst this; cases he
  | x :: left, l, e, h, he, hn => by
    obtain ⟨y, t, rfl, h1, h2, h3⟩ := h
    simp only [List.map_cons, List.nodup_cons] at hn
    rcases List.mem_cons.1 he with rfl | he
    · refine ⟨[], x, left, rfl, h1, h2, ?_⟩
      have : (e :: t).filter (fun y => y.born != e.born) = t := by
        rw [List.filter_cons, if_neg (by simp)]
        exact List.filter_eq_self.2 fun z hz => by
          have : z.born ≠ e.born := fun e' => hn.1 (e' ▸ List.mem_map_of_mem hz)
          simpa using this
      rw [this]
      exact h3
    · obtain ⟨l1, x', l2, rfl, g1, g2, g3⟩ := RM_pick h3 he hn.2
      refine ⟨x :: l1, x', l2, rfl, g1, g2, ?_⟩
      have hne : y.born ≠ e.born := fun e' => hn.1 (e' ▸ List.mem_map_of_mem he)
      rw [List.filter_cons, if_pos (by simpa using hne)]
      exact ⟨y, _, rfl, h1, h2, g3⟩
theorem RM_nil {χ : Nat → Color} {w : World} {left : List (PV × PV)} (h : RM χ w left []) : left = [] := by
  cases left with
  | nil => rfl
  | cons x l => obtain ⟨y, t, e, _⟩ := h; cases e

theorem next_ok {ty : TypeId} {x : SV} {vx : Value} {R : Res} (hf : Fits E χ G ⟨env, st⟩ a w) (hx : RS χ w G x vx) (h : vcNext x st R) :
    ∃ s v st' w', R s st' ∧ (Instr.next vx false ty).run P w = .ok v w' ∧ Rel2 E ⟨env, st'⟩ a w' s v := by
  unfold vcNext at h
  split at h
  · rename_i o
    split at h
    · rename_i mo es left cur hst
      obtain ⟨h0, h1⟩ := h
      obtain ⟨r', hG0, rfl⟩ := hx
      obtain ⟨r, g, es', clock, since, seen, c0, k1, k2, k3, k4, k5, k6, k7, k8, k9, k10, k11, k12, k13, k14⟩ := hf.2.1 o _ hst
      rw [hG0] at k1
      injection k1 with k1
      injection k1 with k1
      subst k1
      have hlt := (List.getElem?_eq_some_iff.1 hst).1
      have hrl : r' < w.heap.size := (Array.getElem?_eq_some_iff.1 k9).1
      have hgr : g ≠ r' := fun e => by rw [e, k9] at k5; cases k5
      have hlo : (leftOf (List.toArray es') seen).toList = es'.filter fun e => !seen.contains e.born := by simp [leftOf]
      rcases run_next_at (P := P) w ty r' g since c0 seen (List.toArray es') clock k9 k5 (fun x hx => k10 x (by simpa using hx)) k11 with ⟨hz, hrun⟩ | ⟨e, he, w1, hw1, hrun⟩
      · have hl : es'.filter (fun e => !seen.contains e.born) = [] := by rw [← hlo]; exact List.eq_nil_of_length_eq_zero (by simpa using hz)
        rw [hl] at k13
        exact ⟨_, _, st, w, h0 (RM_nil k13), hrun, hf.two ⟨[.bool false], rfl, _, [], rfl, rfl, rfl⟩⟩
      · rw [hlo] at he
        have hnd : ((es'.filter fun e => !seen.contains e.born).map (·.born)).Nodup := k8.sublist (List.Sublist.map _ List.filter_sublist)
        obtain ⟨l1, x, l2, rfl, g1, g2, g3⟩ := RM_pick k13 he hnd
        have hf1 : Fits E χ G ⟨env, st⟩ a w1 := by
          rcases hw1 with h | h <;> rw [h]
          · exact hf
          · exact hf.ext (w' := w.drew) rfl rfl rfl (Nat.le_refl _) fun b _ => ⟨rfl, rfl⟩
        have hh0 : w1.heap = w.heap := by rcases hw1 with h | h <;> rw [h] <;> rfl
        have hh1 : ∀ b : Nat, w1.heap[b]? = w.heap[b]? := fun b => by rw [hh0]
        have hs1 : w1.heap.size = w.heap.size := by rw [hh0]
        have hbl : ∀ b : Nat, b ≠ r' → (Go.ChangeMaps.setBlock w1 r' (.mapIter (some g) since (seen.push e.born) clock)).heap[b]? = w1.heap[b]? := fun b hb => by
          unfold Go.ChangeMaps.setBlock
          simp only
          rw [Array.getElem?_setIfInBounds_ne (Ne.symm hb)]
        have hbr : (Go.ChangeMaps.setBlock w1 r' (.mapIter (some g) since (seen.push e.born) clock)).heap[r']? = some (.mapIter (some g) since (seen.push e.born) clock) := by
          unfold Go.ChangeMaps.setBlock
          simp only
          rw [Array.getElem?_setIfInBounds_self_of_lt (by omega)]
        have hk : Keep χ w χ (Go.ChangeMaps.setBlock w1 r' (.mapIter (some g) since (seen.push e.born) clock)) := fun b hb hi => ⟨hi, by rw [hbl b (fun e => by rw [e, k3] at hi; cases hi), hh1]⟩
        have hmem : e ∈ es' := (List.mem_filter.1 he).1
        have hfil : (es'.filter fun y => !(seen.push e.born).contains y.born) = (es'.filter fun y => !seen.contains y.born).filter fun y => y.born != e.born := by
          rw [List.filter_filter]
          refine List.filter_congr fun y _ => ?_
          rw [Array.contains_push]
          cases h1 : seen.contains y.born <;> cases h2 : (y.born == e.born) <;> simp [bne, h1, h2]
        have hf2 := hf1.set (χ' := χ) (G' := G) (w' := Go.ChangeMaps.setBlock w1 r' (.mapIter (some g) since (seen.push e.born) clock)) (ob := .iter mo es (l1 ++ l2) (some x)) hlt rfl rfl rfl (by simp [Go.ChangeMaps.setBlock])
          (fun b hb hne => ⟨rfl, hbl b (fun e => hne (by rw [e]; exact k3))⟩) (fun _ _ => rfl) ⟨fun g hg => hg, fun n hd hh => ⟨n, hd, hh, Nat.le_refl _, fun _ => rfl⟩⟩
          ⟨r', g, es', clock, since, seen.push e.born, clock, hG0, k2, k3, k4, by rw [hbl g hgr, hh1]; exact k5, RM.mono hk _ _ k6, k7, k8, hbr, k10, k12, k12, by rw [hfil]; exact RM.mono hk _ _ g3,
            fun c hc => by cases hc; exact ⟨rfl, e, seen, rfl, hmem, RP.mono hk _ _ g1, RP.mono hk _ _ g2⟩⟩
        exact ⟨_, _, _, _, h1 l1 x l2 rfl, hrun, hf2.two ⟨[.bool true, e.key, e.val], rfl, _, _, rfl, rfl, _, _, rfl, RP.mono hk _ _ g1, _, [], rfl, RP.mono hk _ _ g2, rfl⟩⟩
    · exact h.elim
  · exact h.elim

theorem entry_ok {x : SV} {vx : Value} {R : Res} (hf : Fits E χ G ⟨env, st⟩ a w) (hx : RS χ w G x vx) (h : vcEntry x st R) :
    ∃ s v st', R s st' ∧ (Instr.entry vx).run P w = .ok v w ∧ Rel2 E ⟨env, st'⟩ a w s v := by
  unfold vcEntry at h
  split at h
  · rename_i o
    split at h
    · rename_i mo es left e0 hst
      obtain ⟨r', hG0, rfl⟩ := hx
      obtain ⟨r, g, es', clock, since, seen, c0, k1, k2, k3, k4, k5, k6, k7, k8, k9, k10, k11, k12, k13, k14⟩ := hf.2.1 o _ hst
      rw [hG0] at k1
      injection k1 with k1
      injection k1 with k1
      subst k1
      obtain ⟨hc0, e, seen', rfl, hm, g1, g2⟩ := k14 e0 rfl
      subst hc0
      exact ⟨_, _, st, h, run_entry_at (P := P) w r' g since seen' (List.toArray es') c0 e k9 k5 (by simpa using hm) (by simpa using k8), hf.two ⟨[e.key, e.val], rfl, _, _, rfl, g1, _, [], rfl, g2, rfl⟩⟩
    · exact h.elim
  · exact h.elim
end
end Go.Sy

namespace Go.Sy
theorem RS_nilAtM {χ : Nat → Color} {w : World} {G : Gh} {P : Program} {t : TypeId} {s : SV} {v : Value} (h : RS χ w G s v) : RS χ w G (nilAtM P t s) v := by
  unfold nilAtM
  split
  · exact RS_nilAt h
  · exact h
end Go.Sy
/- Every operation of the walk is what the model does; regions; code. -/
set_option linter.all false
set_option maxHeartbeats 4000000
namespace Go.Sy
open Go.RowKit

section
variable {P : Program} {E : Ent} {env : List SV} {st : List Ob} {a : Act} {w : World}

/-- What the walk asks behind an operation. -/
def After (E : Ent) (env : List SV) (o : Oper) (a : Act) (R : Res) (a' : Act) (w' : World) : Prop :=
  ∃ s v st', R s st' ∧ a' = a.put o.dst v ∧ Rel2 E ⟨env, st'⟩ a w' s v

theorem after_value {o : Oper} {R : Res} {Q : Exit → Act → World → Prop} {s : SV} {v : Value} {st' : List Ob} {w' : World} (hrun : (execOp a.eval o).run P w = .ok (.value v) w') (hR : R s st') (hr : Rel2 E ⟨env, st'⟩ a w' s v) :
    o.wp P a w (After E env o a R) Q := wp_value hrun ⟨s, v, st', hR, rfl, hr⟩

theorem argsOf_ok {χ : Nat → Color} {G : Gh} {ρ : Operand → SV} (hρ : ∀ x, RS χ w G (ρ x) (a.eval x)) (c : Call) (h : c.args.size = c.argTypes.size) : RTL χ w G (argsOf P ρ c) (c.args.map a.eval).toList := by
  unfold argsOf
  rw [Array.toList_map]
  have key : ∀ (l : List Operand) (l' : List TypeId), l.length = l'.length → RTL χ w G ((l.zip l').map fun (x, t) => nilAt P t (ρ x)) (l.map a.eval) := by
    intro l
    induction l with
    | nil => intro l' h; cases l' <;> simp [RTL]
    | cons x l ih =>
      intro l' h
      cases l' with
      | nil => simp at h
      | cons t l' => exact ⟨_, _, rfl, RS_nilAt (hρ x), ih l' (by simpa using h)⟩
  exact key _ _ (by simpa using h)

theorem callFunc_run {g : FuncId} {args : Array Value} (h : isFn P g) : (callFunc g args).run P w = .ok (.enter g args) w := by
  obtain ⟨fn, h1, h2, h3⟩ := h
  have hb : fn.body ≠ none := by intro e; rw [e] at h2; cases h2
  have h3' : ¬ fn.name = "runtime.NumGoroutine" := by simpa using h3
  simp [callFunc, h1, hb, h3']

theorem RunsTo.calls {f : FuncId} {args : Array Value} {R : Ending → World → Prop} (h : RunsTo P f args w R) (hfn : isFn P f) : Calls P f args w R := by
  rcases h with ⟨_, h⟩ | ⟨v, w', h1, _⟩
  · exact h
  · rw [callFunc_run hfn] at h1
    cases h1

/-- Is this a call of a loop's yield? -/
def isYield (env : List SV) (st : List Ob) (o : Oper) : Prop := ∃ c f n, o.op = .call c ∧ c.callee = .value f ∧ St.ev ⟨env, st⟩ f = .yld n

theorem op_sound' {ops : Array Oper} {o : Oper} {q : Option (SV → Prop)} {R : Res} {Q : Exit → Act → World → Prop} (h : vcOp P ops o (St.ev ⟨env, st⟩) st q R) (hr : Rel E ⟨env, st⟩ a w) (hny : ¬ isYield env st o) :
    o.wp P a w (After E env o a R) Q := by
  unfold isYield at hny
  obtain ⟨χ, G, hf⟩ := hr
  have hf : Fits E χ G ⟨env, st⟩ a w := hf
  have hρ : ∀ x, RS χ w G (St.ev ⟨env, st⟩ x) (a.eval x) := fun x => RS_ev hf.1 x
  have hρ' : ∀ {χ : Nat → Color} {st' : List Ob}, Fits E χ G ⟨env, st'⟩ a w → ∀ x, RS χ w G (St.ev ⟨env, st⟩ x) (a.eval x) := fun hf x => RS_ev (σ := ⟨env, st⟩) hf.1 x
  generalize hρe : St.ev ⟨env, st⟩ = ρ at *
  unfold vcOp at h
  split at h
  · rename_i x ho
    exact after_value (by unfold execOp; rw [ho]; rfl) h (hf.two (RS_nilAt (hρ x)))
  · rename_i x ho
    exact after_value (by unfold execOp; rw [ho]; rfl) h (hf.two (RS_nilAt (hρ x)))
  · -- pick
    rename_i c x y ho
    have hc := hρ c
    split at h
    · rename_i t he
      rw [he] at hc
      simp only [RS_val] at hc
      cases t with
      | true => exact after_value (v := a.eval x) (w' := w) (by unfold execOp; rw [ho]; simp [hc, asBool]) h (hf.two (hρ x))
      | false => exact after_value (v := a.eval y) (w' := w) (by unfold execOp; rw [ho]; simp [hc, asBool]) h (hf.two (hρ y))
    · exact h.elim
  · -- binOp
    rename_i op t x y yt ho
    obtain ⟨s, v, hR, hrun, hs⟩ := bin_run (ox := x) (oy := y) (hρ x) (hρ y) h
    refine after_value (v := v) (w' := w) ?_ hR (hf.two hs)
    unfold execOp
    rw [ho]
    simp only [Sem.run_bind] at hrun ⊢
    rw [hrun]
    rfl
  · -- unOp
    rename_i op t x ho
    obtain ⟨s, v, hR, hrun, hs⟩ := un_run (P := P) (hρ x) h
    exact after_value (v := v) (w' := w) (by unfold execOp; rw [ho]; simp [hrun]) hR (hf.two hs)
  · -- convert
    rename_i s d x ho
    by_cases hb : ∃ b e, ρ x = vS b ∧ P.underlying d = some (.slice e)
    · obtain ⟨b, e, hx, hd⟩ := hb
      have hv := hρ x
      rw [hx] at h hv
      simp only [RS_val] at hv
      obtain ⟨s', v, st', w', hR, hrun, hr⟩ := convBytes_ok (R := R) hf hd h
      exact after_value (v := v) (w' := w') (by unfold execOp; rw [ho]; simp [hv, hrun]) hR hr
    · obtain ⟨s', v, hR, hrun, hs⟩ := conv_run (hρ x) hf.2.1 (fun b e hh => hb ⟨b, e, hh⟩) h
      exact after_value (v := v) (w' := w) (by unfold execOp; rw [ho]; simp [hrun]) hR (hf.two hs)
  · -- extract
    rename_i t i ho
    have ht := hρ t
    split at h
    · rename_i cs he
      rw [he] at ht
      obtain ⟨us, hv, hl⟩ := ht
      have hl1 := hl.length
      simp only [must_iff, decide_eq_true_eq] at h
      have := hl.get i
      refine after_value (v := us.getD i undef) (w' := w) ?_ h.2 (hf.two this)
      unfold execOp
      rw [ho]
      have hlt : i < us.length := by omega
      simp [hv, Instr.extract, hlt, List.getD_eq_getElem?_getD]
    · exact h.elim
  · -- nilCheck
    rename_i x ho
    have hx := hρ x
    split at h
    · rename_i o' k he
      rw [he] at hx
      have hx' := hx
      obtain ⟨g, hG, hv⟩ := hx
      exact after_value (v := a.eval x) (w' := w) (by unfold execOp; rw [ho]; simp [hv]) h (hf.two hx')
    · rename_i cs he
      rw [he] at hx
      have hx' := hx
      obtain ⟨ad, us, hv, _⟩ := hx
      exact after_value (v := a.eval x) (w' := w) (by unfold execOp; rw [ho]; simp [hv]) h (hf.two hx')
    · rename_i o' n sz i off he
      rw [he] at hx
      have hx' := hx
      obtain ⟨ad, hv, _⟩ := hx
      exact after_value (v := a.eval x) (w' := w) (by unfold execOp; rw [ho]; simp [hv]) h (hf.two hx')
    · exact h.elim
  · -- indexAddr
    rename_i t x i ho
    obtain ⟨s, v, hR, hrun, hs⟩ := indexAddr_run (hρ x) (hρ i) hf.2.1 h
    exact after_value (v := v) (w' := w) (by unfold execOp; rw [ho]; simp [hrun]) hR (hf.two hs)
  · -- index
    rename_i t x i ho
    obtain ⟨s, v, hR, hrun, hs⟩ := index_run (hρ x) (hρ i) h
    exact after_value (v := v) (w' := w) (by unfold execOp; rw [ho]; simp [hrun]) hR (hf.two hs)
  · -- load
    rename_i t x ho
    obtain ⟨s, v, hR, hrun, hs⟩ := load_run (hρ x) hf.2.1 h
    exact after_value (v := v) (w' := w) (by unfold execOp; rw [ho]; simp [hrun]) hR (hf.two hs)
  · -- box
    rename_i t x ho
    simp only [must_iff] at h
    obtain ⟨s, v, st', w', hR, hrun, hr⟩ := box_ok (P := P) hf (RS_nilAt (hρ x)) h.2
    exact after_value (v := v) (w' := w') (by unfold execOp; rw [ho]; simp [hrun]) hR hr
  · -- alloc
    rename_i t ho
    simp only [must_iff] at h
    obtain ⟨s, v, st', w', hR, hrun, hr⟩ := alloc_ok hf h.2
    exact after_value (v := v) (w' := w') (by unfold execOp; rw [ho]; simp [hrun]) hR hr
  · -- build
    rename_i t parts ho
    obtain ⟨s, v, hR, hrun, hs⟩ := build_ok hρ h
    exact after_value (v := v) (w' := w) (by unfold execOp; rw [ho]; simp [hrun]) hR (hf.two hs)
  · -- buildSlice
    rename_i t len parts ho
    split at h
    · rename_i hm
      simp only [Bool.and_eq_true] at hm
      obtain ⟨s, v, st', w', hR, hrun, hr⟩ := buildRefs_ok hρ hf hm.2 h
      exact after_value (v := v) (w' := w') (by unfold execOp; rw [ho]; simp [hrun]) hR hr
    · obtain ⟨s, v, st', w', hR, hrun, hr⟩ := buildSlice_ok hρ' hf h
      exact after_value (v := v) (w' := w') (by unfold execOp; rw [ho]; simp [hrun]) hR hr
  · -- slice
    rename_i t x lo hi mx ho
    simp only [must_iff, Option.isNone_iff_eq_none] at h
    obtain ⟨hm, h⟩ := h
    subst hm
    obtain ⟨s, v, st', hR, hrun, hr⟩ := slice_ok hρ' hf (hρ x) h
    exact after_value (v := v) (w' := w) (by unfold execOp; rw [ho]; simp [hrun]) hR hr
  · -- makeMap
    rename_i t r ho
    simp only [must_iff, Bool.and_eq_true, Option.isNone_iff_eq_none] at h
    obtain ⟨⟨_, hr0⟩, h⟩ := h
    subst hr0
    obtain ⟨v, w', hrun, hr⟩ := makeMap_ok (P := P) (t := t) hf
    exact after_value (v := v) (w' := w') (by unfold execOp; rw [ho]; simp [hrun]) h hr
  · -- range
    rename_i t x ho
    simp only [must_iff] at h
    obtain ⟨s, v, st', w', hR, hrun, hr⟩ := range_ok hf (hρ x) h.2
    exact after_value (v := v) (w' := w') (by unfold execOp; rw [ho]; simp [hrun]) hR hr
  · -- next
    rename_i x b ho
    simp only [must_iff, Bool.and_eq_true, Bool.not_eq_true'] at h
    obtain ⟨⟨_, hb⟩, h⟩ := h
    subst hb
    obtain ⟨s, v, st', w', hR, hrun, hr⟩ := next_ok (P := P) (ty := o.type) hf (hρ x) h
    exact after_value (v := v) (w' := w') (by unfold execOp; rw [ho]; simp [hrun]) hR hr
  · -- entry
    rename_i x ho
    simp only [must_iff] at h
    obtain ⟨s, v, st', hR, hrun, hr⟩ := entry_ok (P := P) hf (hρ x) h.2
    exact after_value (v := v) (w' := w) (by unfold execOp; rw [ho]; simp [hrun]) hR hr
  · -- lookup
    rename_i t x k c ho
    obtain ⟨s, v, hR, hrun, hs⟩ := lookup_ok (hρ x) (hρ k) hf.2.1 h
    exact after_value (v := v) (w' := w) (by unfold execOp; rw [ho]; simp [hrun]) hR (hf.two hs)
  · -- mapUpdate
    rename_i t x k v ho
    simp only [must_iff] at h
    obtain ⟨s, st', w', hR, hrun, hr⟩ := mapUpdate_ok hf (hρ x) (hρ k) (RS_nilAtM (hρ v)) h.2
    exact wp_skip' (w' := w') (by unfold execOp; rw [ho]; simp [hrun]) ⟨s, undef, st', hR, rfl, hr⟩
  · -- makeSlice
    rename_i t l c ho
    simp only [must_iff] at h
    obtain ⟨s, v, st', w', hR, hrun, hr⟩ := makeSlice_ok hf (hρ l) (hρ c) h.2
    exact after_value (v := v) (w' := w') (by unfold execOp; rw [ho]; simp [hrun]) hR hr
  · -- store
    rename_i t x v ho
    simp only [must_iff] at h
    obtain ⟨s, st', w', hR, hrun, hr⟩ := store_ok hf (hρ x) (RS_nilAt (hρ v)) h.2
    exact wp_skip' (w' := w') (by unfold execOp; rw [ho]; simp [hrun]) ⟨s, undef, st', hR, rfl, hr⟩
  · -- fieldAddr
    rename_i t x f ho
    obtain ⟨s, v, hR, hrun, hs⟩ := fieldAddr_run (hρ x) h
    exact after_value (v := v) (w' := w) (by unfold execOp; rw [ho]; simp [hrun]) hR (hf.two hs)
  · -- field
    rename_i t x f ho
    obtain ⟨s, v, hR, hrun, hs⟩ := field_run (hρ x) h
    exact after_value (v := v) (w' := w) (by unfold execOp; rw [ho]; simp [hrun]) hR (hf.two hs)
  · -- call
    rename_i c ho
    split at h
    · -- len
      rename_i hc
      split at h
      · rename_i x t h1 h2
        have h1' : c.args = #[x] := by apply Array.toList_inj.1; simpa using h1
        have h2' : c.argTypes = #[t] := by apply Array.toList_inj.1; simpa using h2
        obtain ⟨s, v, hR, hrun, hs⟩ := len_run (ty := o.type) (hρ x) hf.2.1 h
        refine after_value (v := v) (w' := w) ?_ hR (hf.two hs)
        unfold execOp
        rw [ho]
        simp [resolve, hc, invoke, builtin, h1', h2', hrun]
      · exact h.elim
    · -- append
      rename_i hc
      split at h
      · rename_i s x t t' h1 h2
        have h1' : c.args = #[s, x] := by apply Array.toList_inj.1; simpa using h1
        have h2' : c.argTypes = #[t, t'] := by apply Array.toList_inj.1; simpa using h2
        split at h
        · split at h
          · rename_i hstr
            obtain ⟨r, v, st', w', hR, hrun, hr⟩ := appendS_ok (ty := o.type) hstr hf (hρ s) (hρ x) h
            refine after_value (v := v) (w' := w') ?_ hR hr
            unfold execOp
            rw [ho]
            simp [resolve, hc, invoke, builtin, h1', h2', hrun]
          · obtain ⟨r, v, st', w', hR, hrun, hr⟩ := append_ok (ty := o.type) hf (hρ s) (hρ x) h
            refine after_value (v := v) (w' := w') ?_ hR hr
            unfold execOp
            rw [ho]
            simp [resolve, hc, invoke, builtin, h1', h2', hrun]
        · obtain ⟨r, v, w', hR, hrun, hr⟩ := appendQ_ok (ty := o.type) hf (hρ s) (hρ x) h
          refine after_value (v := v) (w' := w') ?_ hR hr
          unfold execOp
          rw [ho]
          simp [resolve, hc, invoke, builtin, h1', h2', hrun]
      · exact h.elim
    · -- copy
      rename_i hc
      simp only [must_iff] at h
      obtain ⟨_, h⟩ := h
      split at h
      · rename_i d x t t' h1 h2
        have h1' : c.args = #[d, x] := by apply Array.toList_inj.1; simpa using h1
        have h2' : c.argTypes = #[t, t'] := by apply Array.toList_inj.1; simpa using h2
        obtain ⟨r, v, st', w', hR, hrun, hr⟩ := copy_ok (t' := t') (ty := o.type) hf (hρ d) (hρ x) h
        refine after_value (v := v) (w' := w') ?_ hR hr
        unfold execOp
        rw [ho]
        simp [resolve, hc, invoke, builtin, h1', h2', hrun]
      · exact h.elim
    · -- delete
      rename_i hc
      simp only [must_iff] at h
      obtain ⟨_, h⟩ := h
      split at h
      · rename_i x k t t' h1 h2
        have h1' : c.args = #[x, k] := by apply Array.toList_inj.1; simpa using h1
        have h2' : c.argTypes = #[t, t'] := by apply Array.toList_inj.1; simpa using h2
        obtain ⟨r, v, st', w', hR, hrun, hr⟩ := delete_ok (t' := t') (ty := o.type) hf (hρ x) (hρ k) h
        refine after_value (v := v) (w' := w') ?_ hR hr
        unfold execOp
        rw [ho]
        simp [resolve, hc, invoke, builtin, h1', h2', hrun]
      · exact h.elim
    · -- clear
      rename_i hc
      simp only [must_iff] at h
      obtain ⟨_, h⟩ := h
      split at h
      · rename_i x t h1 h2
        have h1' : c.args = #[x] := by apply Array.toList_inj.1; simpa using h1
        have h2' : c.argTypes = #[t] := by apply Array.toList_inj.1; simpa using h2
        obtain ⟨r, v, st', w', hR, hrun, hr⟩ := clear_ok (ty := o.type) hf (hρ x) h
        refine after_value (v := v) (w' := w') ?_ hR hr
        unfold execOp
        rw [ho]
        simp [resolve, hc, invoke, builtin, h1', h2', hrun]
      · exact h.elim
    · -- min
      rename_i hc
      split at h
      · rename_i x y h1
        have h1' : c.args = #[x, y] := by apply Array.toList_inj.1; simpa using h1
        obtain ⟨s, v, hR, hrun, hs⟩ := min_run (P := P) (ts := c.argTypes) (t := o.type) (hρ x) (hρ y) h
        refine after_value (v := v) (w' := w) ?_ hR (hf.two hs)
        unfold execOp
        rw [ho]
        simp [resolve, hc, invoke, builtin, h1', hrun]
      · exact h.elim
    · -- max
      rename_i hc
      split at h
      · rename_i x y h1
        have h1' : c.args = #[x, y] := by apply Array.toList_inj.1; simpa using h1
        obtain ⟨s, v, hR, hrun, hs⟩ := max_run (P := P) (ts := c.argTypes) (t := o.type) (hρ x) (hρ y) h
        refine after_value (v := v) (w' := w) ?_ hR (hf.two hs)
        unfold execOp
        rw [ho]
        simp [resolve, hc, invoke, builtin, h1', hrun]
      · exact h.elim
    · -- a function
      rename_i f hc
      simp only [must_iff, beq_iff_eq] at h
      obtain ⟨hsz, h⟩ := h
      have hfv := hρ f
      split at h
      · rename_i g he
        rw [he] at hfv
        simp only [RS_val] at hfv
        rcases callIn_ok hf (argsOf_ok hρ c hsz) h with ⟨hfn, hcall⟩ | ⟨vv, ww, hrun0, r, v, st', hR, he, hr⟩
        case' inr =>
          injection he with he
          subst he
          refine after_value (v := vv) (w' := ww) ?_ hR hr
          unfold execOp
          rw [ho]
          simp only [resolve, hc, hfv, Sem.run_bind]
          have e0 : (c.args.map a.eval) = (c.args.map a.eval).toList.toArray := (Array.toArray_toList).symm
          rw [← e0] at hrun0
          simp [Deferred.ofValue, invoke, hrun0]
        have hrun : (execOp a.eval o).run P w = .ok (.enter g (c.args.map a.eval)) w := by
          unfold execOp
          rw [ho]
          simp only [resolve, hc, hfv, Sem.run_bind]
          simp [Deferred.ofValue, invoke, callFunc_run hfn]
        unfold Oper.wp
        rw [hrun]
        simp only [Oper.upon]
        have e0 : (c.args.map a.eval) = (c.args.map a.eval).toList.toArray := (Array.toArray_toList).symm
        rw [e0]
        refine hcall.mono ?_
        rintro e w' ⟨r, v, st', hR, rfl, hr⟩
        exact ⟨r, v, st', hR, rfl, hr⟩
      · rename_i g caps he
        rw [he] at hfv
        obtain ⟨us, hv, hl⟩ := hfv
        rcases callIn_ok hf ((argsOf_ok hρ c hsz).append hl) h with ⟨hfn, hcall⟩ | ⟨vv, ww, hrun0, r, v, st', hR, he, hr⟩
        case' inr =>
          injection he with he
          subst he
          refine after_value (v := vv) (w' := ww) ?_ hR hr
          unfold execOp
          rw [ho]
          have e0 : (c.args.map a.eval ++ us.toArray) = ((c.args.map a.eval).toList ++ us).toArray := by simp
          rw [← e0] at hrun0
          simp [resolve, hc, hv, Deferred.ofValue, invoke, hrun0]
        have hrun : (execOp a.eval o).run P w = .ok (.enter g (c.args.map a.eval ++ us.toArray)) w := by
          unfold execOp
          rw [ho]
          simp [resolve, hc, hv, Deferred.ofValue, invoke, callFunc_run hfn]
        unfold Oper.wp
        rw [hrun]
        simp only [Oper.upon]
        have e0 : (c.args.map a.eval ++ us.toArray) = ((c.args.map a.eval).toList ++ us).toArray := by simp
        rw [e0]
        refine hcall.mono ?_
        rintro e w' ⟨r, v, st', hR, rfl, hr⟩
        exact ⟨r, v, st', hR, rfl, hr⟩
      · rename_i g first he
        rw [he] at hfv
        obtain ⟨us, hv, hl⟩ := hfv
        rcases callIn_ok hf (hl.append (argsOf_ok hρ c hsz)) h with ⟨hfn, hcall⟩ | ⟨vv, ww, hrun0, r, v, st', hR, he, hr⟩
        case' inr =>
          injection he with he
          subst he
          refine after_value (v := vv) (w' := ww) ?_ hR hr
          unfold execOp
          rw [ho]
          have e0 : (us.toArray ++ c.args.map a.eval) = (us ++ (c.args.map a.eval).toList).toArray := by simp
          rw [← e0] at hrun0
          simp [resolve, hc, hv, Deferred.ofValue, invoke, hrun0]
        have hrun : (execOp a.eval o).run P w = .ok (.enter g (us.toArray ++ c.args.map a.eval)) w := by
          unfold execOp
          rw [ho]
          simp [resolve, hc, hv, Deferred.ofValue, invoke, callFunc_run hfn]
        unfold Oper.wp
        rw [hrun]
        simp only [Oper.upon]
        have e0 : (us.toArray ++ c.args.map a.eval) = (us ++ (c.args.map a.eval).toList).toArray := by simp
        rw [e0]
        refine hcall.mono ?_
        rintro e w' ⟨r, v, st', hR, rfl, hr⟩
        exact ⟨r, v, st', hR, rfl, hr⟩
      · rename_i n he
        exact absurd ⟨c, f, n, ho, hc, he⟩ hny
      · exact h.elim
    · exact h.elim
  · -- makeFunc
    rename_i fn first caps ho
    have key : ∀ l : List Operand, RTL χ w G (l.map ρ) (l.map a.eval) := by
      intro l
      induction l with
      | nil => rfl
      | cons x l ih => exact ⟨_, _, rfl, hρ x, ih⟩
    split at h
    · rename_i g
      split at h
      · rename_i h1
        have hfirst : first = #[] := by apply Array.toList_inj.1; simpa using h1
        subst hfirst
        exact after_value (v := .func (.func g) #[] (caps.map a.eval)) (w' := w) (by unfold execOp; rw [ho]; simp [Instr.makeFunc]) h (hf.two ⟨caps.toList.map a.eval, by rw [← Array.toList_map, Array.toArray_toList], key _⟩)
      · rename_i x r h1
        simp only [must_iff, beq_iff_eq] at h
        have hcaps : caps = #[] := by simpa using h.1
        subst hcaps
        exact after_value (v := .func (.func g) (first.map a.eval) #[]) (w' := w) (by unfold execOp; rw [ho]; simp [Instr.makeFunc]) h.2 (hf.two ⟨(x :: r).map a.eval, by rw [← h1, ← Array.toList_map, Array.toArray_toList], key _⟩)
    · exact h.elim
  · exact h.elim

theorem upon_mono {o : Oper} {next next' : Act → World → Prop} {Q : Exit → Act → World → Prop} {r : Result Next} (h : ∀ a w, next a w → next' a w) (hu : o.upon P a next Q r) : o.upon P a next' Q r := by
  cases r with
  | ok n w' =>
    cases n with
    | value v => exact h _ _ hu
    | skip => exact h _ _ hu
    | defer d => exact h _ _ hu
    | enter f args => exact Calls.mono hu fun e w'' hh => (by cases e <;> first | exact h _ _ hh | exact hh)
    | row r args => exact Rows.mono hu fun v w'' hh => h _ _ hh
    | _ => exact hu
  | halt x w' =>
    cases x <;> exact hu

theorem FW_fn (ro : Option Nat) (f : FuncId) : (FW ro).fn f := trivial
theorem FW_calls {ro : Option Nat} {n : Nat} {f : FuncId} {args : Array Value} {R : Ending → World → Prop} : CallsIn (FW ro) n P f args w R ↔ Calls P f args w R := callsIn_wide

/-- What is carried out outside a round is carried out in one. -/
theorem wpIn_of_wp {o : Oper} {K : Act → World → Prop} {Q : Exit → Act → World → Prop} {ro : Option Nat} (hnd : ∀ c, o.op ≠ .defer c) (h : o.wp P a w K Q) : o.wpIn (FW ro) 0 P a w K Q := by
  refine ⟨fun f _ => FW_fn ro f, ?_⟩
  rw [Oper.semAt_eq _ _ _ hnd]
  unfold Oper.wp at h
  generalize (execOp a.eval o).run P w = r at h
  cases r with
  | ok n w' =>
    cases n with
    | value v => exact h
    | skip => exact h
    | defer d => exact h
    | enter f args => exact ⟨fun e => (by cases e), FW_calls.2 h⟩
    | row r args => exact ⟨fun e => (by cases e), fun c cs _ => (let ⟨v, w'', h1, h2⟩ := h c cs; ⟨v, w'', h1, stepsIn_wide.2 h2⟩)⟩
    | _ => exact h.elim
  | halt x w' => cases x <;> first | exact h | exact h.elim

theorem no_defer {ops : Array Oper} {o : Oper} {ρ : Operand → SV} {st : List Ob} {q : Option (SV → Prop)} {R : Res} (h : vcOp P ops o ρ st q R) : ∀ c, o.op ≠ .defer c := by
  intro c e
  unfold vcOp at h
  rw [e] at h
  exact h

/-- A round, met where the iterator calls yield. -/
theorem yield_sound {o : Oper} {c : Call} {f : Operand} {n : Nat} {R : Res} {Q : Exit → Act → World → Prop} (ho : o.op = .call c) (hc : c.callee = .value f) (he : St.ev ⟨env, st⟩ f = .yld n) (hsz : c.args.size = c.argTypes.size)
    (h : YieldIn P n (argsOf P (St.ev ⟨env, st⟩) c) st R) (hr : Rel E ⟨env, st⟩ a w) : o.wpIn (FW E.ro) 0 P a w (After E env o a R) Q := by
  obtain ⟨χ, G, hf⟩ := hr
  have hf : Fits E χ G ⟨env, st⟩ a w := hf
  have hρ : ∀ x, RS χ w G (St.ev ⟨env, st⟩ x) (a.eval x) := fun x => RS_ev hf.1 x
  refine ⟨fun f _ => FW_fn _ f, ?_⟩
  rw [Oper.semAt_eq _ _ _ (by rw [ho]; intro c e; cases e)]
  obtain ⟨ids, args', obs, Q', hn, hi, h0, ha, hb, hoo, hob, hrd, k⟩ := h
  obtain ⟨χc, Gc, hgl, g1, g2, g3, g5, g4⟩ := obj_step hf (argsOf_ok hρ c hsz) hn hi ha hb hoo hob
  have hol : obs.length = ids.length := by simpa using (congrArg List.length hoo).symm
  obtain ⟨lenv, ps, asg, body, pend, rest, rfl, hlen, hround⟩ := hrd
  have hl0 := g2 0 _ rfl
  obtain ⟨l, us, fn, D, e1, e2, e3, e4⟩ := hl0
  have hidl : 0 < ids.length := by rw [← hol]; simp
  have hG0 := g5 0 hidl
  have hn0 : ids.getD 0 0 = n := by
    cases ids with
    | nil => simp at hidl
    | cons x r => simpa using h0
  rw [hn0] at hG0
  have hfv := hρ f
  rw [he] at hfv
  obtain ⟨l', q1, q2⟩ := hfv
  rw [hG0, q1] at e1
  injection e1 with e1
  injection e1 with e1
  subst e1
  have hargl : args'.length = (argsOf P (St.ev ⟨env, st⟩) c).length := by
    rw [ha]
    have : ∀ (m : Nat → Nat) (l : List SV), (SV.rnL m l).length = l.length := by
      intro m l
      induction l with
      | nil => rfl
      | cons x l ih => simp [SV.rnL, ih]
    rw [this]
  have hasz : (c.args.map a.eval).size = ps.size := by
    rw [← hlen, hargl]
    simp [argsOf, hsz]
  have hrun : (execOp a.eval o).run P w = .ok (.round l' fn ((ps.zip (c.args.map a.eval)).foldl (fun tmps (t, a) => tmps.setIfInBounds t a) us.toArray) asg body) w := by
    unfold execOp
    rw [ho]
    simp only [resolve, hc, q2, Sem.run_bind, Deferred.ofValue, Sem.run_pure, Result.andThen_ok, invoke]
    have := run_yield (P := P) (args := c.args.map a.eval) e3 hasz
    simpa using this
  rw [hrun]
  refine ⟨fun e => (by cases e), ?_⟩
  have hR := hround χc Gc w _ hgl g1 g2 g3 l' us fn D (by rw [hG0, q1]) e2 e3 e4
  rw [Array.toArray_toList] at hR
  have hR : RoundIn (FW E.ro) 0 P l' fn ((ps.zip (c.args.map a.eval)).foldl (fun tmps (t, a) => tmps.setIfInBounds t a) us.toArray) asg body w _ := hR
  refine hR.mono ?_
  rintro e w' ⟨r, v, st', χ1, G1, hQ, rfl, hr, hst1, hfr, hlen', hgle, hnone⟩
  obtain ⟨χ', G', q1', q2', _⟩ := g4 r v st' χ1 G1 w' hr hst1 hfr hlen' hgle hnone
  exact ⟨_, v, _, k r st' hQ, rfl, q1'.two q2'⟩

theorem op_sound {ops : Array Oper} {o : Oper} {q : Option (SV → Prop)} {R : Res} {Q : Exit → Act → World → Prop} (h : vcOp P ops o (St.ev ⟨env, st⟩) st q R) (hr : Rel E ⟨env, st⟩ a w) :
    o.wpIn (FW E.ro) 0 P a w (After E env o a R) Q := by
  by_cases hy : isYield env st o
  · obtain ⟨c, f, n, ho, hc, he⟩ := hy
    unfold vcOp at h
    rw [ho] at h
    simp only [hc, he, must_iff, beq_iff_eq] at h
    exact yield_sound ho hc he h.1 h.2.2 hr
  · exact wpIn_of_wp (no_defer h) (op_sound' h hr hy)

theorem yielded_of {ops : Array Oper} {j d : Nat} {t : Bool} {χ : Nat → Color} {G : Gh} (hj : (ops[j]?).bind (·.dst) = some d) (hr : RTL χ w G env a.tmps.toList) (he : env.getD d .dead = vB t) : yielded ops a.tmps j = some t := by
  have h1 := hr.get d
  rw [he] at h1
  have h2 : a.tmps.toList.getD d undef = .bool t := h1
  unfold yielded
  rw [hj]
  simp only [Option.bind_some]
  have h3 : a.tmps[d]? = some (.bool t) := by
    rw [List.getD_eq_getElem?_getD, Array.getElem?_toList] at h2
    cases hh : a.tmps[d]? with
    | none => rw [hh] at h2; cases h2
    | some v => rw [hh] at h2; simp at h2; rw [h2]
  rw [h3]

theorem yielded_not {ops : Array Oper} {j d : Nat} {χ : Nat → Color} {G : Gh} (hj : (ops[j]?).bind (·.dst) = some d) (hr : RTL χ w G env a.tmps.toList) (he : env.getD d .dead = .tup []) : yielded ops a.tmps j = none := by
  have h := hr.get d
  rw [he] at h
  obtain ⟨us, hu, h2⟩ := h
  have h2 : us = [] := h2
  subst h2
  unfold yielded
  rw [hj]
  simp only [Option.bind_some]
  cases ht : a.tmps[d]? with
  | none => rfl
  | some v =>
    have : a.tmps.toList.getD d undef = v := by rw [List.getD_eq_getElem?_getD, Array.getElem?_toList, ht]; rfl
    rw [this] at hu
    rw [hu]

theorem guard_sound {ops : Array Oper} {o : Oper} {rest : List Oper} {q : Option (SV → Prop)} {K : St → Prop} {Q : Exit → Act → World → Prop}
    (h : vcGuard P ops o ⟨env, st⟩ q K) (hr : Rel E ⟨env, st⟩ a w) (hk : ∀ σ' a' w', K σ' → Rel E σ' a' w' → wpListIn (FW E.ro) 0 P ops Q rest a' w') : wpListIn (FW E.ro) 0 P ops Q (o :: rest) a w := by
  refine wpListIn_step fun K' hK => ?_
  have run : vcOp P ops o (St.ev ⟨env, st⟩) st q (fun s st' => putK env st' o.dst s K) → o.wpIn (FW E.ro) 0 P a w K' Q := fun h => by
    have := op_sound (Q := Q) h hr
    exact Oper.wpIn_mono (fun a' w' ⟨s, v, st', hR, ha, h2⟩ => by subst ha; exact hK _ _ (hk _ _ _ (putK_iff.1 hR) (Rel.two (o := o.dst) h2))) this
  unfold vcGuard at h
  split at h
  · rename_i hg
    rw [if_pos (by simp [Region.wanted, hg])]
    exact run h
  · rename_i j b hg
    split at h
    · exact h.elim
    · rename_i d hd
      split at h
      · rename_i t he
        obtain ⟨χ, G, hf⟩ := hr
        have hy := yielded_of hd hf.1 he
        split at h
        · rename_i htb
          rw [if_pos (by simp [Region.wanted, hg, hy]; simpa using htb)]
          exact run h
        · rename_i htb
          rw [if_neg (by simp [Region.wanted, hg, hy]; simpa using htb)]
          exact ⟨fun f _ => FW_fn _ f, hK _ _ (hk _ _ _ (putK_iff.1 h) (Rel.two (o := o.dst) (s := .tup []) (v := undef) ⟨χ, G, hf, [], rfl, rfl⟩))⟩
      · rename_i he
        obtain ⟨χ, G, hf⟩ := hr
        have hy := yielded_not hd hf.1 he
        rw [if_neg (by simp [Region.wanted, hg, hy])]
        exact ⟨fun f _ => FW_fn _ f, hK _ _ (hk _ _ _ (putK_iff.1 h) (Rel.two (o := o.dst) (s := .tup []) (v := undef) ⟨χ, G, hf, [], rfl, rfl⟩))⟩
      · exact h.elim

theorem ops_sound {ops : Array Oper} {Q : Exit → Act → World → Prop} : ∀ (l : List Oper) (σ : St) (K : St → Prop) (a : Act) (w : World), vcOps P ops l σ K → Rel E σ a w → (∀ σ' a' w', K σ' → Rel E σ' a' w' → Q .normal a' w') → wpListIn (FW E.ro) 0 P ops Q l a w
  | [], σ, K, a, w, h, hr, hk => wpListIn_nil (hk _ _ _ h hr)
  | o :: rest, ⟨env, st⟩, K, a, w, h, hr, hk => guard_sound h hr fun σ' a' w' h' hr' => ops_sound rest σ' K a' w' h' hr' hk

/-- **The walk over symbolic states is right.** -/
theorem vc_sound : ∀ {k : Kx} (c : Code) (σ : St) (Q : Exit → St → Prop), vc P k c σ Q → awp P k c σ Q
  | k, .skip, σ, Q, h => fun E a w hk hr => wpIn_skip ⟨σ, h, hr⟩
  | k, .seq x y, σ, Q, h => fun E a w hk hr => by
    refine wpIn_seq (wpIn_mono (vc_sound x σ _ h E a w hk hr) ?_)
    rintro e a' w' ⟨σ', hq, hr'⟩
    cases e with
    | normal => obtain ⟨hq⟩ := hq; exact hq E a' w' hk hr'
    | exit id => exact ⟨σ', hq, hr'⟩
    | goto l => exact ⟨σ', hq, hr'⟩
    | ret => exact ⟨σ', hq, hr'⟩
    | panic ch => exact ⟨σ', hq, hr'⟩
    | outgrown => exact ⟨σ', hq, hr'⟩
  | k, .cond c x y, σ, Q, h => fun E a w hk hr => by
    unfold vc at h
    obtain ⟨χ, G, hf⟩ := hr
    have hc := RS_ev hf.1 c
    split at h
    · rename_i t he
      rw [he] at hc
      have hc : a.eval c = .bool t := hc
      cases t with
      | true => exact wpIn_cond_true hc (vc_sound x σ Q h E a w hk ⟨χ, G, hf⟩)
      | false => exact wpIn_cond_false hc (vc_sound y σ Q h E a w hk ⟨χ, G, hf⟩)
    · exact h.elim
  | k, .block id c, σ, Q, h => fun E a w hk hr => by
    refine wpIn_block (wpIn_mono (vc_sound c σ _ h E a w hk hr) ?_)
    rintro e a' w' ⟨σ', hq, hr'⟩
    cases e with
    | exit id' =>
      simp only [Exit.inBlock]
      simp only at hq
      split at hq
      · rename_i e; rw [if_pos e]; exact ⟨σ', hq, hr'⟩
      · rename_i e; rw [if_neg e]; exact ⟨σ', hq, hr'⟩
    | normal => exact ⟨σ', hq, hr'⟩
    | goto l => exact ⟨σ', hq, hr'⟩
    | ret => exact ⟨σ', hq, hr'⟩
    | panic ch => exact ⟨σ', hq, hr'⟩
    | outgrown => exact ⟨σ', hq, hr'⟩
  | k, .exit id, σ, Q, h => fun E a w hk hr => wpIn_exit ⟨σ, h, hr⟩
  | k, .ret, σ, Q, h => fun E a w hk hr => wpIn_ret ⟨σ, h, hr⟩
  | k, .region id ops false, σ, Q, h => fun E a w hk hr => wpIn_region_list (ops_sound ops.toList σ _ a w h hr fun σ' a' w' hq hr' => ⟨σ', hq, hr'⟩)
  | k, .region id ops true, σ, Q, h => by obtain ⟨h⟩ := h; exact h
  | k, .loop c, σ, Q, h => by obtain ⟨h⟩ := h; exact h
  | k, .rangeFunc _ _ _ _, σ, Q, h => by obtain ⟨h⟩ := h; exact h
  | k, .scope _, σ, Q, h => by obtain ⟨h⟩ := h; exact h
  | k, .label _, σ, Q, h => by obtain ⟨h⟩ := h; exact h
  | k, .goto _, σ, Q, h => by obtain ⟨h⟩ := h; exact h
  | k, .refuse _, σ, Q, h => by obtain ⟨h⟩ := h; exact h

/-- The next piece of code. -/
theorem rest_vc {P : Program} {k : Kx} {c : Code} {σ : St} {Q : Exit → St → Prop} (h : vc P k c σ Q) : Rest P k c σ Q := ⟨vc_sound c σ Q h⟩

end
end Go.Sy
/- Loops, ends of functions. -/
set_option linter.all false
set_option maxHeartbeats 4000000
namespace Go.Sy
open Go.RowKit

mutual
/-- Numbers of vecs, raised. -/
def SV.up (f : Nat → Nat) : SV → SV
  | .vref o n => .vref o (n + f o)
  | .eptr o n sz i off => .eptr o (n + f o) sz i off
  | .agg cs => .agg (SV.upL f cs)
  | .tup cs => .tup (SV.upL f cs)
  | .clo g cs => .clo g (SV.upL f cs)
  | .bnd g cs => .bnd g (SV.upL f cs)
  | s => s
def SV.upL (f : Nat → Nat) : List SV → List SV
  | [] => []
  | c :: cs => c.up f :: SV.upL f cs
end
def Ob.up (f : Nat → Nat) (o : Nat) : Ob → Ob
  | .cells t cs => .cells t (SV.upL f cs)
  | .vec n e sz nl xs => .vec (n + f o) e sz nl xs
  | .fro n sz nl xs => .fro (n + f o) sz nl xs
  | .gone => .gone
  | .row t n xs => .row t n xs
  | .loop env ps asg body s pend => .loop (SV.upL f env) ps asg body s pend
  | .map es => .map es
  | .iter mo es left cur => .iter mo es left cur
def upSt (f : Nat → Nat) : Nat → List Ob → List Ob
  | _, [] => []
  | o, ob :: obs => ob.up f o :: upSt f (o + 1) obs

theorem upSt_length (f : Nat → Nat) : ∀ (o : Nat) (l : List Ob), (upSt f o l).length = l.length
  | _, [] => rfl
  | o, ob :: obs => by simp [upSt, upSt_length f (o + 1) obs]
theorem upSt_get (f : Nat → Nat) : ∀ (l : List Ob) (o i : Nat), (upSt f o l)[i]? = (l[i]?).map (Ob.up f (o + i))
  | [], o, i => by simp [upSt]
  | ob :: obs, o, 0 => by simp [upSt]
  | ob :: obs, o, i + 1 => by simp [upSt, upSt_get f obs (o + 1) i, Nat.add_assoc, Nat.add_comm 1 i]

/-- Some slots; of the others nothing is known. -/
def mkEnv : Nat → List (Nat × SV) → List SV
  | n, [] => List.replicate n .dead
  | n, (i, s) :: l => (mkEnv n l).set i s
/-- The slots hold these. -/
def holds (f : Nat → Nat) (env : List SV) : List (Nat × SV) → Prop
  | [] => True
  | (i, s) :: l => env.getD i .dead = s.up f ∧ holds f env l

section
variable {χ : Nat → Color} {w : World} {G : Gh} {f : Nat → Nat} {m : Nat}

/-- Heads, with the numbers lowered; objects from m on forgotten. -/
def dn (f : Nat → Nat) (m : Nat) (G : Gh) : Gh := fun o => if o < m then (match G o with | some (.ver n h) => some (.ver (n - f o) h) | x => x) else none

mutual
theorem RS.dn : ∀ (s : SV) (v : Value), s.inn m = true → RS χ w G (s.up f) v → RS χ w (dn f m G) s v
  | .pure p, v, hs, h => h
  | .ptr o k, v, hs, ⟨g, h, e⟩ => ⟨g, by simp only [SV.inn, decide_eq_true_eq] at hs; simp [Sy.dn, hs, h], e⟩
  | .vref o n, v, hs, ⟨h0, k, h, h1, h2, h3⟩ => by
    simp only [SV.inn, decide_eq_true_eq] at hs
    exact ⟨h0, k - f o, h, by simp [Sy.dn, hs, h1], by omega, fun e => h3 (by omega)⟩
  | .eptr o n sz i off, v, hs, ⟨ad, h0, k, h, h1, h2, h3⟩ => by
    simp only [SV.inn, decide_eq_true_eq] at hs
    exact ⟨ad, h0, k - f o, h, by simp [Sy.dn, hs, h1], by omega, fun e => h3 (by omega)⟩
  | .ipt cs, v, hs, h => h
  | .mref o, v, hs, ⟨g, h, e⟩ => ⟨g, by simp only [SV.inn, decide_eq_true_eq] at hs; simp [Sy.dn, hs, h], e⟩
  | .agg cs, v, hs, ⟨us, h1, h2⟩ => ⟨us, h1, RSL.dn cs us (by simpa [SV.inn] using hs) h2⟩
  | .tup cs, v, hs, ⟨us, h1, h2⟩ => ⟨us, h1, RTL.dn cs us (by simpa [SV.inn] using hs) h2⟩
  | .clo g cs, v, hs, ⟨us, h1, h2⟩ => ⟨us, h1, RTL.dn cs us (by simpa [SV.inn] using hs) h2⟩
  | .dead, v, hs, h => trivial
  | .lit sz xs, v, hs, h => h
  | .sref o k n, v, hs, ⟨g, c, h, e⟩ => ⟨g, c, by simp only [SV.inn, decide_eq_true_eq] at hs; simp [Sy.dn, hs, h], e⟩
  | .yld o, v, hs, ⟨g, h, e⟩ => ⟨g, by simp only [SV.inn, decide_eq_true_eq] at hs; simp [Sy.dn, hs, h], e⟩
  | .bnd g cs, v, hs, ⟨us, h1, h2⟩ => ⟨us, h1, RTL.dn cs us (by simpa [SV.inn] using hs) h2⟩
theorem RSL.dn : ∀ (cs : List SV) (us : List Value), SV.inL m cs = true → RSL χ w G (SV.upL f cs) us → RSL χ w (dn f m G) cs us
  | [], us, hs, h => h
  | c :: cs, us, hs, ⟨u, r, h1, h2, h3, h4⟩ => by
    simp only [SV.inL, Bool.and_eq_true] at hs
    exact ⟨u, r, h1, h2, RS.dn c u hs.1 h3, RSL.dn cs r hs.2 h4⟩
theorem RTL.dn : ∀ (cs : List SV) (us : List Value), SV.inL m cs = true → RTL χ w G (SV.upL f cs) us → RTL χ w (dn f m G) cs us
  | [], us, hs, h => h
  | c :: cs, us, hs, ⟨u, r, h1, h2, h3⟩ => by
    simp only [SV.inL, Bool.and_eq_true] at hs
    exact ⟨u, r, h1, RS.dn c u hs.1 h2, RTL.dn cs r hs.2 h3⟩
end

theorem RO.dn {o : Nat} {ob : Ob} (ho : o < m) (hin : ob.inn m = true) (h : RO χ w G o (ob.up f o)) : RO χ w (dn f m G) o ob := by
  cases ob with
  | cells t cs =>
    obtain ⟨g, us, h1, h2, h3, h4⟩ := h
    exact ⟨g, us, by simp [Sy.dn, ho, h1], h2, h3, RSL.dn cs us (by simpa [Ob.inn] using hin) h4⟩
  | vec n e sz nl xs =>
    obtain ⟨hd, us, h1, h2, h3, h4, h5⟩ := h
    exact ⟨hd, us, by simp [Sy.dn, ho, h1], h2, h3, h4, h5⟩
  | fro n sz nl xs =>
    obtain ⟨hd, h1, h2⟩ := h
    exact ⟨hd, by simp [Sy.dn, ho, h1], h2⟩
  | gone => trivial
  | row t n xs =>
    obtain ⟨g, us, vs, h1, h2, h3, h4, h5⟩ := h
    exact ⟨g, us, vs, by simp [Sy.dn, ho, h1], h2, h3, h4, h5⟩
  | loop env ps asg body s pend =>
    obtain ⟨g, us, fn, D, h1, h2, h3, h4⟩ := h
    exact ⟨g, us, fn, D, by simp [Sy.dn, ho, h1], h2, h3, RTL.dn env us (by simpa [Ob.inn] using hin) h4⟩
  | map es =>
    obtain ⟨g, es', c, h1, h2, h3, h4, h5, h6⟩ := h
    exact ⟨g, es', c, by simp [Sy.dn, ho, h1], h2, h3, h4, h5, h6⟩
  | iter mo es left cur =>
    obtain ⟨r, g, es', c, since, seen, c0, h1, h2, rest⟩ := h
    have hmo : mo < m := by simpa [Ob.inn] using hin
    exact ⟨r, g, es', c, since, seen, c0, by simp [Sy.dn, ho, h1], by simp [Sy.dn, hmo, h2], rest⟩

theorem RTL_set_any : ∀ {cs : List SV} {us : List Value}, RTL χ w G cs us → ∀ (d : Nat) {s : SV}, RS χ w G s (us.getD d undef) → RTL χ w G (cs.set d s) us
  | [], us, h, d, s, hs => by simpa using h
  | c :: cs, us, ⟨u, r, h1, h2, h3⟩, d, s, hs => by
    subst h1
    cases d with
    | zero => exact ⟨u, r, rfl, by simpa using hs, h3⟩
    | succ d => exact ⟨u, r, rfl, h2, RTL_set_any h3 d (by simpa using hs)⟩

theorem mkEnv_ok {env : List SV} {us : List Value} (h : RTL χ w G env us) : ∀ (l : List (Nat × SV)), holds f env l → SV.inL m (l.map (·.2)) = true → RTL χ w (Sy.dn f m G) (mkEnv env.length l) us
  | [], _, _ => by
    unfold mkEnv
    rw [← h.length]
    generalize us = us
    induction us with
    | nil => rfl
    | cons u us ih => exact ⟨u, us, rfl, trivial, ih⟩
  | (i, s) :: l, hh, hin => by
    obtain ⟨h1, h2⟩ := hh
    simp only [List.map_cons, SV.inL, Bool.and_eq_true] at hin
    refine RTL_set_any (mkEnv_ok h l h2 hin.2) i (RS.dn s _ hin.1 ?_)
    rw [← h1]
    exact h.get i
end

/-- Objects that came in have no raised numbers. -/
structure KOk (f : Nat → Nat) (k : Kx) : Prop where
  zero : ∀ o, o < k.n → f o = 0
  inn : SV.inL k.n k.dss = true

mutual
theorem up_below {f : Nat → Nat} {k : Nat} (hf : ∀ o, o < k → f o = 0) : ∀ (s : SV), s.inn k = true → s.up f = s
  | .pure _, _ => rfl
  | .ptr _ _, _ => rfl
  | .vref o n, h => by simp only [SV.inn, decide_eq_true_eq] at h; simp only [SV.up]; rw [hf o h]; rfl
  | .eptr o n sz i off, h => by simp only [SV.inn, decide_eq_true_eq] at h; simp only [SV.up]; rw [hf o h]; rfl
  | .ipt _, _ => rfl
  | .mref _, _ => rfl
  | .agg cs, h => by simp only [SV.up]; rw [upL_below hf cs (by simpa [SV.inn] using h)]
  | .tup cs, h => by simp only [SV.up]; rw [upL_below hf cs (by simpa [SV.inn] using h)]
  | .clo _ cs, h => by simp only [SV.up]; rw [upL_below hf cs (by simpa [SV.inn] using h)]
  | .dead, _ => rfl
  | .lit _ _, _ => rfl
  | .sref _ _ _, _ => rfl
  | .yld _, _ => rfl
  | .bnd _ cs, h => by simp only [SV.up]; rw [upL_below hf cs (by simpa [SV.inn] using h)]
theorem upL_below {f : Nat → Nat} {k : Nat} (hf : ∀ o, o < k → f o = 0) : ∀ (cs : List SV), SV.inL k cs = true → SV.upL f cs = cs
  | [], _ => rfl
  | c :: cs, h => by
    simp only [SV.inL, Bool.and_eq_true] at h
    simp only [SV.upL]
    rw [up_below hf c h.1, upL_below hf cs h.2]
end
mutual
theorem inn_mono {k m : Nat} (hkm : k ≤ m) : ∀ (s : SV), s.inn k = true → s.inn m = true
  | .pure _, _ => rfl
  | .ptr o _, h => by simp only [SV.inn, decide_eq_true_eq] at *; omega
  | .vref o n, h => by simp only [SV.inn, decide_eq_true_eq] at *; omega
  | .eptr o n sz i off, h => by simp only [SV.inn, decide_eq_true_eq] at *; omega
  | .ipt _, _ => rfl
  | .mref _, h => by simp only [SV.inn, decide_eq_true_eq] at *; omega
  | .agg cs, h => by simp only [SV.inn] at *; exact inL_mono hkm cs h
  | .tup cs, h => by simp only [SV.inn] at *; exact inL_mono hkm cs h
  | .clo _ cs, h => by simp only [SV.inn] at *; exact inL_mono hkm cs h
  | .dead, _ => rfl
  | .lit _ _, _ => rfl
  | .sref _ _ _, h => by simp only [SV.inn, decide_eq_true_eq] at *; omega
  | .yld _, h => by simp only [SV.inn, decide_eq_true_eq] at *; omega
  | .bnd _ cs, h => by simp only [SV.inn] at *; exact inL_mono hkm cs h
theorem inL_mono {k m : Nat} (hkm : k ≤ m) : ∀ (cs : List SV), SV.inL k cs = true → SV.inL m cs = true
  | [], _ => rfl
  | c :: cs, h => by
    simp only [SV.inL, Bool.and_eq_true] at *
    exact ⟨inn_mono hkm c h.1, inL_mono hkm cs h.2⟩
end

theorem RD.dn {E : Ent} {χ : Nat → Color} {w : World} {G : Gh} {ds : List Deferred} {f : Nat → Nat} {m : Nat} (h : RD E χ w G ds) (hf : ∀ o, o < E.k.n → f o = 0) (hi : SV.inL E.k.n E.k.dss = true) (hm : E.k.n ≤ m) : RD E χ w (Sy.dn f m G) ds := by
  obtain ⟨h1, h2, h3⟩ := h
  exact ⟨RTL.dn _ _ (inL_mono hm _ hi) (by rw [upL_below hf _ hi]; exact h1), h2, h3⟩

/-- One state's knowledge is another's, and less: some slots, the first objects. -/
theorem weaken {E : Ent} {k : Kx} {n : Nat} {σ : St} {a : Act} {w : World} {l : List (Nat × SV)} {st : List Ob} (f : Nat → Nat) (hE : E.k = k) (hr : Rel E σ a w) (hn : σ.env.length = n) (hl : holds f σ.env l) (hst : σ.st.take st.length = upSt f 0 st)
    (hk : k.n ≤ st.length) (hf : ∀ o, o < k.n → f o = 0) (hdi : SV.inL k.n k.dss = true) (hi : SV.inL st.length (l.map (·.2)) = true) (hi2 : st.all (Ob.inn st.length) = true) : Rel E ⟨mkEnv n l, st⟩ a w := by
  obtain ⟨χ, G, h1, h2, h3, h4, h5, h6, h7⟩ := hr
  refine ⟨χ, dn f st.length G, by rw [← hn]; exact mkEnv_ok h1 l hl hi, fun o ob ho => ?_, h3, h4.dn (by rw [hE]; exact hf) (by rw [hE]; exact hdi) (by rw [hE]; exact hk), by simp only; rw [hE]; omega, fun o ho => ?_, fun o ho => by simp [dn]; intro h; simp only at ho; omega⟩
  · have hlt : o < st.length := (List.getElem?_eq_some_iff.1 ho).1
    have e1 : σ.st[o]? = some (ob.up f o) := by
      have := congrArg (fun l => l[o]?) hst
      simp only [List.getElem?_take, hlt, if_true, upSt_get, Nat.zero_add] at this
      rw [this, ho]; rfl
    have hin : ob.inn st.length = true := by
      rw [List.all_eq_true] at hi2
      exact hi2 ob (List.mem_of_getElem? ho)
    exact RO.dn hlt hin (h2 o _ e1)
  · rw [hE] at ho
    obtain ⟨g1, g2⟩ := h6 o (by rw [hE]; exact ho)
    have hlt : o < st.length := by omega
    refine ⟨fun g hg => by simp [dn, hlt, g1 g hg], fun n' hd hh => ?_⟩
    obtain ⟨m, h', e1, e2, e3⟩ := g2 n' hd hh
    exact ⟨m, h', by simp [dn, hlt, e1, hf o (by omega)], e2, e3⟩

/-- **A loop**: what holds at each round's head, for some x; a number that each round lowers. -/
theorem awp_loop {P : Program} {k : Kx} {n : Nat} {c : Code} {σ : St} {Q : Exit → St → Prop} {α : Type} (inv : α → Prop) (sl : α → List (Nat × SV)) (st : α → List Ob) (μ : α → Nat) (x0 : α) (f0 : Nat → Nat)
    (h0 : inv x0) (hn : σ.env.length = n) (hl : holds f0 σ.env (sl x0)) (hst : σ.st.take (st x0).length = upSt f0 0 (st x0)) (hf0 : ∀ o, o < k.n → f0 o = 0)
    (hi : ∀ x, k.n ≤ (st x).length ∧ SV.inL (st x).length ((sl x).map (·.2)) = true ∧ (st x).all (Ob.inn (st x).length) = true)
    (round : ∀ x, inv x → vc P k c ⟨mkEnv n (sl x), st x⟩ fun e σ' => match e with
      | .normal => ∃ y f, inv y ∧ μ y < μ x ∧ σ'.env.length = n ∧ holds f σ'.env (sl y) ∧ σ'.st.take (st y).length = upSt f 0 (st y) ∧ (∀ o, o < k.n → f o = 0)
      | e => Q e σ') (hdi : SV.inL k.n k.dss = true := by rfl) : Hand P k (.loop c) σ Q := by
  refine ⟨fun E a w hE hr => ?_⟩
  refine wpIn_loop_ghost (fun m a w => ∃ x, inv x ∧ μ x = m ∧ Rel E ⟨mkEnv n (sl x), st x⟩ a w) (μ x0) ⟨x0, h0, rfl, weaken f0 hE hr hn hl hst (hi x0).1 hf0 hdi (hi x0).2.1 (hi x0).2.2⟩ ?_
  rintro m a w ⟨x, hx, rfl, hr⟩
  refine wpIn_mono (vc_sound c _ _ (round x hx) E a w hE hr) ?_
  rintro e a' w' ⟨σ', hq, hr'⟩
  cases e with
  | normal =>
    obtain ⟨y, f, h1, h2, h3, h4, h5, h6⟩ := hq
    exact ⟨μ y, h2, y, h1, rfl, weaken f hE hr' h3 h4 h5 (hi y).1 h6 hdi (hi y).2.1 (hi y).2.2⟩
  | exit id => exact ⟨σ', hq, hr'⟩
  | goto l => exact ⟨σ', hq, hr'⟩
  | ret => exact ⟨σ', hq, hr'⟩
  | panic ch => exact ⟨σ', hq, hr'⟩
  | outgrown => exact ⟨σ', hq, hr'⟩

end Go.Sy
/- Ends of functions: contracts out of walks. -/
set_option linter.all false
set_option maxHeartbeats 4000000
namespace Go.Sy
open Go.RowKit

def resList (P : Program) (σ : St) : List ResultVar → (List SV → Prop) → Prop
  | [], K => K []
  | .tmp t :: rs, K => resList P σ rs fun l => K (σ.env.getD t .dead :: l)
  | .cell a t :: rs, K => vcLoad P t (σ.env.getD a .dead) σ.st fun s => resList P σ rs fun l => K (s :: l)

/-- Results that go where nobody writes, as far as they can. -/
def purL (pur : Bool) : List SV → List Ob → (List SV → List Ob → Prop) → Prop
  | [], st, K => K [] st
  | s :: l, st, K => match pur with
    | true => match s.pv st with
      | some p => purL pur l (s.frz st) fun l st => K (.pure p :: l) st
      | none => purL pur l st fun l st => K (s :: l) st
    | false => purL pur l st fun l st => K (s :: l) st

def oneRes : List SV → SV
  | [s] => s
  | l => .tup l

/-- At a function's end: the results; the objects that are handed back. -/
def exitVC (P : Program) (fn : Func) (pur : Bool) (m : Nat) (σ : St) (Q : Res) : Prop :=
  resList P σ fn.results.toList fun l => purL pur l σ.st fun l st =>
    must (decide (m ≤ st.length) && SV.inL m l && (st.take m).all (Ob.inn m)) (Q (oneRes l) (st.take m))

/-- What a body must come to. -/
def bodyVC (P : Program) (fn : Func) (pur : Bool) (m : Nat) (Q : Res) (e : Exit) (σ : St) : Prop :=
  match e with
  | .normal => exitVC P fn pur m σ Q
  | .ret => exitVC P fn pur m σ Q
  | _ => False

def resM (tmps : Array Value) : ResultVar → Sem Value
  | .tmp t => pure (tmps.getD t undef)
  | .cell x t => do loadVar t (← asAddr (tmps.getD x undef))
def oneV : List Value → Value
  | [v] => v
  | vs => .tuple vs.toArray

mutual
theorem up_zero : ∀ (s : SV), s.up (fun _ => 0) = s
  | .pure _ => rfl
  | .ptr _ _ => rfl
  | .vref _ _ => rfl
  | .eptr _ _ _ _ _ => rfl
  | .ipt _ => rfl
  | .mref _ => rfl
  | .agg cs => by simp only [SV.up]; rw [upL_zero cs]
  | .tup cs => by simp only [SV.up]; rw [upL_zero cs]
  | .clo _ cs => by simp only [SV.up]; rw [upL_zero cs]
  | .dead => rfl
  | .lit _ _ => rfl
  | .sref _ _ _ => rfl
  | .yld _ => rfl
  | .bnd _ cs => by simp only [SV.up]; rw [upL_zero cs]
theorem upL_zero : ∀ (cs : List SV), SV.upL (fun _ => 0) cs = cs
  | [] => rfl
  | c :: cs => by simp only [SV.upL]; rw [up_zero c, upL_zero cs]
end

section
variable {P : Program} {E : Ent} {a : Act} {w : World}

theorem resList_ok {χ : Nat → Color} {G : Gh} {σ : St} (hf : Fits E χ G σ a w) : ∀ (rs : List ResultVar) (K : List SV → Prop), resList P σ rs K →
    ∃ l vs, K l ∧ RTL χ w G l vs ∧ (rs.mapM (resM a.tmps)).run P w = .ok vs w
  | [], K, h => ⟨[], [], h, rfl, by simp⟩
  | .tmp t :: rs, K, h => by
    obtain ⟨l, vs, hK, hl, hr⟩ := resList_ok hf rs _ h
    have := hf.1.get t
    refine ⟨_, a.tmps.getD t undef :: vs, hK, ⟨_, _, rfl, by simpa [List.getD_eq_getElem?_getD, Array.getD_eq_getD_getElem?] using this, hl⟩, ?_⟩
    simp only [List.mapM_cons, Sem.run_bind, hr, resM, Sem.run_pure, Result.andThen_ok]
  | .cell x t :: rs, K, h => by
    have hx := hf.1.get x
    obtain ⟨s, v, h, hrun, hs⟩ := load_run hx hf.2.1 h
    obtain ⟨l, vs, hK, hl, hr⟩ := resList_ok hf rs _ h
    refine ⟨_, v :: vs, hK, ⟨_, _, rfl, hs, hl⟩, ?_⟩
    have e1 : a.tmps.toList.getD x undef = a.tmps.getD x undef := by simp [List.getD_eq_getElem?_getD, Array.getD_eq_getD_getElem?]
    rw [e1] at hrun
    have h2 : (resM a.tmps (.cell x t)).run P w = .ok v w := by
      show (do loadVar t (← asAddr (a.tmps.getD x undef)) : Sem Value).run P w = .ok v w
      generalize a.tmps.getD x undef = u at hrun ⊢
      cases u <;> simp [Instr.loadAt, Instr.sureAddr] at hrun
      rename_i ad
      cases ad with
      | none => simp at hrun
      | some ad => simpa [asAddr] using hrun
    simp only [List.mapM_cons, Sem.run_bind, h2, hr, Sem.run_pure, Result.andThen_ok]

theorem purL_ok {pur : Bool} {G : Gh} {env : List SV} : ∀ (l : List SV) {χ : Nat → Color} {st : List Ob} {vs : List Value} {K : List SV → List Ob → Prop}, Fits E χ G ⟨env, st⟩ a w → RTL χ w G l vs → purL pur l st K →
    ∃ χ' l' st', K l' st' ∧ Fits E χ' G ⟨env, st'⟩ a w ∧ ImmLe χ χ' ∧ RTL χ' w G l' vs
  | [], χ, st, vs, K, hf, hl, h => ⟨χ, [], st, h, hf, ImmLe.refl _, hl⟩
  | s :: l, χ, st, vs, K, hf, hl, h => by
    obtain ⟨u, r, rfl, h1, h2⟩ := hl
    unfold purL at h
    split at h
    · split at h
      · rename_i p hp
        obtain ⟨χ1, g1, g2, g3⟩ := pv_frz s hf h1 hp
        obtain ⟨χ2, l', st', hK, k1, k2, k3⟩ := purL_ok l g1 (RTL.mono (g2.keep w) (GGo.refl G) _ _ h2) h
        exact ⟨χ2, _, st', hK, k1, g2.trans k2, u, r, rfl, RP.mono (k2.keep w) _ _ g3, k3⟩
      · obtain ⟨χ2, l', st', hK, k1, k2, k3⟩ := purL_ok l hf h2 h
        exact ⟨χ2, _, st', hK, k1, k2, u, r, rfl, RS.mono (k2.keep w) (GGo.refl G) _ _ h1, k3⟩
    · obtain ⟨χ2, l', st', hK, k1, k2, k3⟩ := purL_ok l hf h2 h
      exact ⟨χ2, _, st', hK, k1, k2, u, r, rfl, RS.mono (k2.keep w) (GGo.refl G) _ _ h1, k3⟩

theorem results_run {fn : Func} {tmps : Array Value} {vs : List Value} (h : (fn.results.toList.mapM (resM tmps)).run P w = .ok vs w) :
    (results fn tmps).run P w = .ok (oneV vs) w := by
  have e : results fn tmps = (fn.results.mapM (resM tmps) >>= fun vs => pure (if h : vs.size = 1 then vs[0] else .tuple vs)) := rfl
  rw [e, Array.mapM_eq_mapM_toList]
  simp only [Sem.run_bind, Sem.run_map, h, Result.andThen_ok, Sem.run_pure]
  match vs with
  | [] => simp [oneV]
  | [v] => simp [oneV]
  | v :: u :: r => simp [oneV]

/-- A mark is taken away. -/
theorem Fits.unmark {χ : Nat → Color} {G : Gh} {σ : St} {tm : Array Value} {d : Deferred} {ds : List Deferred} (h : Fits E χ G σ { tmps := tm, defers := d :: ds } w) (hE : E.dvs = []) :
    ∃ r, d = { target := .collected r, args := #[] } ∧ w.heap[r]? = some (.deferred (some [])) ∧ Fits E (fun b => if b = r then .other else χ b) G σ { tmps := tm, defers := ds } (w.putObj r (.deferred none)) := by
  obtain ⟨h1, h2, h3, ⟨d1, d2, pre, d3, d4, d5⟩, h5, h6, h7⟩ := h
  rw [hE] at d3
  simp only [List.map_nil, List.append_nil] at d3
  subst d3
  obtain ⟨r, e1, e2, e3, e4⟩ := d4 d (by simp)
  refine ⟨r, e1, e4, ?_⟩
  have hne : ∀ b, b ≠ r → (if b = r then Color.other else χ b) = χ b ∧ (w.putObj r (.deferred none)).heap[b]? = w.heap[b]? := fun b hb => ⟨if_neg hb, World.putObj_heap_other hb⟩
  have hk : Keep χ w (fun b => if b = r then .other else χ b) (w.putObj r (.deferred none)) := fun b hlt hi => by
    obtain ⟨k1, k2⟩ := hne b (fun e => by rw [e, e2] at hi; cases hi)
    exact ⟨by simp only; rw [k1]; exact hi, k2⟩
  refine ⟨RTL.mono hk (GGo.refl _) _ _ h1, fun o ob ho => RO.mono hk (GGo.refl _) rfl (fun b hlt hc => ?_) (h2 o ob ho),
    ⟨h3.os, h3.tape, h3.output, by rw [World.putObj_size]; exact h3.size, fun b hlt hi => ?_, fun b hlt hi => ?_⟩, ⟨RTL.mono hk (GGo.refl _) _ _ d1, d2, ds, by rw [hE]; simp, fun d' hd' => ?_, (List.nodup_cons.1 d5).2⟩, h5, h6, h7⟩
  · obtain ⟨k1, k2⟩ := hne b (fun e => by rw [e, e2] at hc; cases hc)
    exact ⟨by (try simp only); rw [k1]; exact hc, k2⟩
  · obtain ⟨k1, k2⟩ := hne b (by omega)
    obtain ⟨k3, k4⟩ := h3.imm b hlt hi
    exact ⟨by (try simp only); rw [k1]; exact k3, by rw [k2]; exact k4⟩
  · obtain ⟨k1, k2⟩ := hne b (by omega)
    obtain ⟨k3, k4⟩ := h3.other b hlt hi
    exact ⟨by (try simp only); rw [k1]; exact k3, by rw [k2]; exact k4⟩
  · obtain ⟨r', f1, f2, f3, f4⟩ := d4 d' (by simp [hd'])
    have hrr : r' ≠ r := by
      rintro rfl
      rw [← e1] at f1
      rw [f1] at hd'
      exact (List.nodup_cons.1 d5).1 hd'
    obtain ⟨k1, k2⟩ := hne r' hrr
    exact ⟨r', f1, by (try simp only); rw [k1]; exact f2, f3, by rw [k2]; exact f4⟩

/-- A function's end: marks are taken away, the results are read. -/
theorem leaves_marks {fn : Func} {R : Ending → World → Prop} {G : Gh} {σ : St} {tm : Array Value} (hE : E.dvs = []) (h : ∀ χ w, Fits E χ G σ { tmps := tm, defers := [] } w → ∃ v, (results fn tm).run P w = .ok v w ∧ R (.returned v) w) :
    ∀ (ds : List Deferred) (χ : Nat → Color) (w : World), Fits E χ G σ { tmps := tm, defers := ds } w → LeavesInM (FW none) 0 P fn tm R ds .returning w
  | [], χ, w, hf => h χ w hf
  | d :: ds, χ, w, hf => by
    obtain ⟨r, e1, e2, hf'⟩ := hf.unmark hE
    exact ⟨by simp, .inl ⟨r, _, by rw [e1], run_takeDeferred e2, leaves_marks hE h ds _ _ hf'⟩⟩

/-- **A contract**: out of a walk of the body. -/
theorem callOk_of {f : FuncId} {fn : Func} {c : Code} {args : List SV} {st : List Ob} {Q : Res} (pur : Bool) (m : Nat) (hfn : P.funcs[f]? = some fn) (hb : fn.body = some c) (hname : (fn.name == "runtime.NumGoroutine") = false) (hm : st.length ≤ m)
    (h : vc P { n := st.length } c ⟨args ++ List.replicate (fn.ntmps - args.length) .dead, st⟩ (bodyVC P fn pur m Q)) : CallOk P f args st Q := by
  refine fun χ G w vs hgl hargs hst hG => .inl ⟨⟨fn, hfn, by rw [hb]; rfl, hname⟩, ?_⟩
  refine (FW_calls (ro := none) (n := 0)).1 (callsIn_of_wp_marks hfn hb (FW_fn _ _) ?_)
  have hrel : Rel ⟨χ, w, G, { n := st.length }, [], none, hgl⟩ ⟨args ++ List.replicate (fn.ntmps - args.length) .dead, st⟩ { tmps := vs.toArray ++ Array.replicate (fn.ntmps - vs.toArray.size) undef, defers := [] } w := by
    refine ⟨χ, G, ?_, hst, ⟨rfl, rfl, rfl, Nat.le_refl _, fun b _ h => ⟨h, rfl⟩, fun b _ h => ⟨h, rfl⟩⟩, ⟨rfl, fun _ => rfl, [], rfl, by simp, List.nodup_nil⟩, Nat.le_refl _, fun o _ => ⟨fun g h => h, fun n hd hh => ⟨n, hd, hh, Nat.le_refl _, fun _ => rfl⟩⟩, hG⟩
    have := hargs.append (RTL.replicate_dead (χ := χ) (w := w) (G := G) (fn.ntmps - args.length) undef)
    simpa [hargs.length] using this
  refine wpIn_mono (vc_sound c _ _ h _ _ _ rfl hrel) ?_
  rintro e a' w0 ⟨σ', hq, hr⟩
  have fin : exitVC P fn pur m σ' Q → LeavesInM (FW none) 0 P fn a'.tmps (fun e w' => ∃ r v' st' χ' G', Q r st' ∧ e = .returned v' ∧ RS χ' w' G' r v' ∧ RSt χ' w' G' st' ∧ Fr χ w χ' w' ∧ st.length ≤ st'.length ∧ GLe st.length G G' ∧ (∀ o, st'.length ≤ o → G' o = none)) a'.defers .returning w0 := by
    intro hx
    obtain ⟨χ0, G1, hf0⟩ := hr
    refine leaves_marks (E := ⟨χ, w, G, { n := st.length }, [], none, hgl⟩) (G := G1) (σ := σ') rfl (fun χ1 w' hf => ?_) a'.defers χ0 w0 hf0
    obtain ⟨l, us, hx, hl, hrun⟩ := resList_ok hf _ _ hx
    obtain ⟨χ2, l', st', hx, hf2, him, hl2⟩ := purL_ok l hf hl hx
    simp only [must_iff, Bool.and_eq_true, decide_eq_true_eq] at hx
    obtain ⟨⟨⟨hm1, hin⟩, hin2⟩, hQ⟩ := hx
    obtain ⟨k1, k2, k3, k4, k5, k6, k7⟩ := hf2
    refine ⟨_, results_run hrun, _, _, _, χ2, dn (fun _ => 0) m G1, hQ, rfl, ?_, fun o ob ho => ?_, k3, by simp; omega, fun o ho => ?_, fun o ho => ?_⟩
    · have hl3 := RTL.dn (f := fun _ => 0) (m := m) l' us hin (by rw [upL_zero]; exact hl2)
      match l', us, hl3 with
      | [], us, h => simp [RTL] at h; subst h; exact ⟨[], rfl, rfl⟩
      | [s], us, ⟨u, r, e, h1, h2⟩ => simp [RTL] at h2; subst h2; subst e; exact h1
      | s :: s' :: l, us, h =>
        obtain ⟨u, r, rfl, h1, u', r', rfl, h2, h3⟩ := h
        exact ⟨_, rfl, u, _, rfl, h1, u', _, rfl, h2, h3⟩
    · have hlt : o < m := by have := (List.getElem?_eq_some_iff.1 ho).1; simp at this; omega
      rw [List.getElem?_take, if_pos hlt] at ho
      have hob : ob.inn m = true := by
        rw [List.all_eq_true] at hin2
        exact hin2 ob (List.mem_of_getElem? (i := o) (by rw [List.getElem?_take, if_pos hlt]; exact ho))
      refine RO.dn hlt hob ?_
      have := k2 o ob ho
      cases ob with
      | cells t cs => simp only [Ob.up]; rw [upL_zero]; exact this
      | loop env ps asg body s pend => simp only [Ob.up]; rw [upL_zero]; exact this
      | _ => exact this
    · obtain ⟨q1, q2⟩ := k6 o ho
      have hlt : o < m := by omega
      refine ⟨fun g hg => by simp [dn, hlt, q1 g hg], fun n hd hh => ?_⟩
      obtain ⟨m', h', e1, e2, e3⟩ := q2 n hd hh
      exact ⟨m', h', by simp [dn, hlt, e1], e2, e3⟩
    · have : ¬ o < m := by simp at ho; omega
      unfold dn
      rw [if_neg this]
  cases e with
  | normal => exact fin hq
  | ret => exact fin hq
  | exit id => exact hq.elim
  | goto l => exact hq.elim
  | panic ch => exact hq.elim
  | outgrown => exact hq.elim

theorem CallOk.mono {f : FuncId} {args : List SV} {st : List Ob} {Q Q' : Res} (h : CallOk P f args st Q) (hq : ∀ r st', Q r st' → Q' r st') : CallOk P f args st Q' :=
  fun χ G w vs h0 h1 h2 h3 => (h χ G w vs h0 h1 h2 h3).mono fun e w' ⟨r, v, st', χ', G', hQ, rest⟩ => ⟨r, v, st', χ', G', hq r st' hQ, rest⟩

end
end Go.Sy
