/- The walk's operations are what the model does: stores, parts built, all operations. -/
import Derived.Test.YtlnmkolppgkglaaSyJ
set_option linter.all false
set_option maxHeartbeats 4000000
namespace Go.Sy
open Go.RowKit

theorem setAt_eq {α : Type} : ∀ (vs us : List α) (k : Nat), k + vs.length ≤ us.length → setAt us k vs = us.take k ++ vs ++ us.drop (k + vs.length)
  | [], us, k, h => by simp [setAt]
  | v :: vs, us, k, h => by
    simp only [List.length_cons] at h
    rw [setAt, setAt_eq vs (us.set k v) (k + 1) (by simp; omega)]
    have h1 : (us.set k v).take (k + 1) = us.take k ++ [v] := by
      rw [List.take_set, List.take_succ_eq_append_getElem (by omega), List.set_append, if_neg (by simp; omega)]
      simp [show k - min k us.length = 0 by omega]
    have h2 : (us.set k v).drop (k + 1 + vs.length) = us.drop (k + (vs.length + 1)) := by
      rw [List.drop_set, if_pos (by omega)]
      congr 1; omega
    rw [h1, h2]
    simp

theorem RSL_unpures {χ : Nat → Color} {w : World} {G : Gh} : ∀ {cs : List SV} {ps : List PV} {us : List Value}, pures cs = some ps → RSL χ w G cs us → RL χ w ps us
  | [], ps, us, h, hl => by simp [pures] at h; subst h; exact hl
  | c :: cs, ps, us, h, hl => by
    cases c with
    | pure p =>
      simp only [pures, Option.map_eq_some_iff] at h
      obtain ⟨ps', h1, rfl⟩ := h
      obtain ⟨u, r, rfl, h2, h3, h4⟩ := hl
      exact ⟨u, r, rfl, h2, h3, RSL_unpures h1 h4⟩
    | _ => simp [pures] at h

theorem setAt_len {α : Type} : ∀ (vs l : List α) (k : Nat), (setAt l k vs).length = l.length
  | [], l, k => rfl
  | x :: r, l, k => by unfold setAt; rw [setAt_len r, List.length_set]

theorem setAt_append {α : Type} {l r : List α} : ∀ {k : Nat} (cs : List α), k + cs.length ≤ l.length → setAt (l ++ r) k cs = setAt l k cs ++ r := by
  intro k cs
  induction cs generalizing l k with
  | nil => intro _; rfl
  | cons c cs ih =>
    intro h
    simp only [List.length_cons] at h
    unfold setAt
    rw [List.set_append_left _ _ (by omega), ih (by simp; omega)]
theorem row_store {α : Type} {cur us A U B C V : List α} {k off n sz : Nat} (hA : A.length = k) (hn : us.length = n) (hU : U.length = sz) (hv : off + V.length ≤ sz)
    (e5 : cur = us ++ C) (e6 : us = A ++ (U ++ B)) (hk : k + off + V.length ≤ cur.length) : ((setAt cur (k + off) V).toArray.toList).take n = A ++ setAt U off V ++ B := by
  rw [List.toList_toArray, setAt_eq _ _ _ hk, setAt_eq _ _ _ (by omega)]
  have h1 : cur.take (k + off) = A ++ U.take off := by
    rw [e5, e6, List.append_assoc, List.take_append, hA, List.take_of_length_le (by omega), show k + off - k = off by omega, List.append_assoc, List.take_append, hU, show off - sz = 0 by omega]
    simp
  have h2 : cur.drop (k + off + V.length) = U.drop (off + V.length) ++ (B ++ C) := by
    rw [e5, e6, List.append_assoc, List.drop_append, hA, List.drop_of_length_le (by omega), show k + off + V.length - k = off + V.length by omega, List.append_assoc, List.drop_append, hU, show off + V.length - sz = 0 by omega]
    simp
  rw [h1, h2]
  have h3 : (A ++ U.take off ++ V ++ (U.drop (off + V.length) ++ (B ++ C))) = (A ++ (U.take off ++ V ++ U.drop (off + V.length)) ++ B) ++ C := by simp [List.append_assoc]
  rw [h3, List.take_append]
  have h4 : (A ++ (U.take off ++ V ++ U.drop (off + V.length)) ++ B).length = n := by
    have : us.length = A.length + (U.length + B.length) := by rw [e6]; simp
    simp
    omega
  rw [List.take_of_length_le (by omega), h4, Nat.sub_self]
  simp

section
variable {P : Program} {E : Ent} {χ : Nat → Color} {G : Gh} {env : List SV} {st : List Ob} {a : Act} {w : World}

theorem storeAt_run {t : TypeId} {g k : Nat} {T : TypeId} {cur : Array Value} {v : Value} (h2 : (P.info? t).isSome = true) (hg : w.heap[g]? = some (.cells cur T (0, 0))) (hs : v.cells.size = szOf P t) (hk : k + szOf P t ≤ cur.size)
    (ho : ∀ y ∈ v.cells.toList, y.oneCell' = true) :
    (Instr.storeAt t (.pointer (some ⟨g, k, none⟩)) v).run P w = .ok () (w.setRow g (setAt cur.toList k v.cells.toList).toArray) := by
  have hl : v.cells.toList.length = szOf P t := by simpa using hs
  have := run_storeCells_at (P := P) g k T v.cells.toList 0 cur w hg (by omega) ho
  rw [setAt_eq _ _ _ (by simp; omega)]
  simp only [Instr.storeAt, Instr.sureAddr, Sem.run_bind, Sem.run_pure, Result.andThen_ok, storeVar, sizeOf_run h2, hs]
  simpa using this

theorem setRow_at (w : World) (g : Nat) (cs cur : Array Value) (T : TypeId) (fr : Nat × Nat) (hg : w.heap[g]? = some (.cells cur T fr)) : (w.setRow g cs).heap[g]? = some (.cells cs T fr) := by
  simp [World.setRow, Array.getElem?_modify, hg]
theorem setRow_ne (w : World) (g b : Nat) (cs : Array Value) (h : b ≠ g) : (w.setRow g cs).heap[b]? = w.heap[b]? := by
  simp [World.setRow, Array.getElem?_modify, Ne.symm h]

theorem store_ok {t : TypeId} {x y : SV} {vx vy : Value} {R : Res} (hf : Fits E χ G ⟨env, st⟩ a w) (hx : RS χ w G x vx) (hy : RS χ w G y vy) (h : vcStore P t x y st R) :
    ∃ s st' w', R s st' ∧ (Instr.storeAt t vx vy).run P w = .ok () w' ∧ Rel2 E ⟨env, st'⟩ a w' s undef := by
  unfold vcStore at h
  simp only [must_iff, Bool.and_eq_true] at h
  obtain ⟨⟨h1, h2⟩, h⟩ := h
  split at h
  · rename_i o k
    obtain ⟨g, hG, rfl⟩ := hx
    split at h
    · rename_i T cs hob
      simp only [beq_iff_eq, decide_eq_true_eq] at h
      obtain ⟨⟨⟨ho, hs⟩, hk⟩, hR⟩ := h
      obtain ⟨g', us, hG', hcol, hheap, hl⟩ := hf.2.1 o _ hob
      rw [hG] at hG'
      injection hG' with hG'
      injection hG' with hG'
      subst hG'
      have hcl := RSL_cells ho hy
      have hlen := hl.length
      have hvs : vy.cells.size = szOf P t := by rw [← hs, ← hcl.length]; simp
      have hrun := storeAt_run (k := k) h2 hheap hvs (by simp; omega) hcl.one
      have hlt : o < st.length := (List.getElem?_eq_some_iff.1 hob).1
      have hbl : ∀ b, b < w.heap.size → χ b ≠ .own o → (w.setRow g (setAt us k vy.cells.toList).toArray).heap[b]? = w.heap[b]? := fun b hb hne => setRow_ne _ _ _ _ (fun e => hne (by rw [e]; exact hcol))
      have hk' : Keep χ w χ (w.setRow g (setAt us k vy.cells.toList).toArray) := fun b hb hi => ⟨hi, hbl b hb (by rw [hi]; simp)⟩
      refine ⟨_, _, _, hR, hrun, (hf.set (w' := w.setRow g (setAt us k vy.cells.toList).toArray) (χ' := χ) (G' := G) hlt rfl rfl rfl (by simp) (fun b hb hne => ⟨rfl, hbl b hb hne⟩) (fun _ _ => rfl) ⟨fun g hg => hg, fun n hd hh => ⟨n, hd, hh, Nat.le_refl _, fun _ => rfl⟩⟩ ?_).two trivial⟩
      exact ⟨g, _, hG, hcol, setRow_at w g _ _ T _ hheap, RSL.setAt (RSL.mono hk' (GGo.refl G) _ _ hcl) k (RSL.mono hk' (GGo.refl G) _ _ hl)⟩
    · rename_i T m xs hob
      unfold vcPure at h
      simp only at h
      split at h
      · rename_i q
        simp only [must_iff, Bool.and_eq_true, beq_iff_eq] at h
        obtain ⟨⟨ho, hs⟩, hk, hR⟩ := h
        obtain ⟨g', us, vs, hG', hcol, hheap, hum, hl⟩ := hf.2.1 o _ hob
        rw [hG] at hG'
        injection hG' with hG'
        injection hG' with hG'
        subst hG'
        have hcl := RL_cells ho hy
        have hlen := hl.length
        have hvs : vy.cells.size = szOf P t := by rw [← hs, ← hcl.length]; simp
        have hrun := storeAt_run (k := k) h2 hheap hvs (by simp; omega) hcl.one
        have hap : setAt (us ++ vs) k vy.cells.toList = setAt us k vy.cells.toList ++ vs := setAt_append _ (by rw [show vy.cells.toList.length = szOf P t by simpa using hvs]; omega)
        have hlt : o < st.length := (List.getElem?_eq_some_iff.1 hob).1
        rw [hap] at hrun
        have hbl : ∀ b, b < w.heap.size → χ b ≠ .own o → (w.setRow g (setAt us k vy.cells.toList ++ vs).toArray).heap[b]? = w.heap[b]? := fun b hb hne => setRow_ne _ _ _ _ (fun e => hne (by rw [e]; exact hcol))
        have hk' : Keep χ w χ (w.setRow g (setAt us k vy.cells.toList ++ vs).toArray) := fun b hb hi => ⟨hi, hbl b hb (by rw [hi]; simp)⟩
        refine ⟨_, _, _, hR, hrun, (hf.set (w' := w.setRow g (setAt us k vy.cells.toList ++ vs).toArray) (χ' := χ) (G' := G) hlt rfl rfl rfl (by simp) (fun b hb hne => ⟨rfl, hbl b hb hne⟩) (fun _ _ => rfl) ⟨fun g hg => hg, fun n hd hh => ⟨n, hd, hh, Nat.le_refl _, fun _ => rfl⟩⟩ ?_).two trivial⟩
        exact ⟨g, _, vs, hG, hcol, setRow_at w g _ _ T _ hheap, by rw [setAt_len]; exact hum, RL.setAt (RL.mono hk' _ _ hcl) k (RL.mono hk' _ _ hl)⟩
      · exact h.elim
    · exact h.elim
  · rename_i o n sz i off
    obtain ⟨χ', q, st', h, hf', him, hq⟩ := pure_ok hf hy h
    obtain ⟨ad, rfl, m, hd, hG, hle, hx⟩ := hx
    split at h
    · rename_i m' e sz' nl xs hob
      simp only [beq_iff_eq] at h
      obtain ⟨⟨⟨⟨ho, rfl⟩, hs⟩, hnm⟩, hi, h⟩ := h
      have hp : xs[i]? = some xs[i] := List.getElem?_eq_getElem hi
      have h := h _ hp
      simp only [decide_eq_true_eq] at h
      obtain ⟨hk, hR⟩ := h
      obtain ⟨g, l, c, u, hG', hcol, hr, husz, hone, hcell, hl, cur, hheap, hxc, hcm, hcs, us, hrf, htk, hdrop, hnl⟩ := vec_elem (hf'.2.1 o _ hob) hp
      rw [hG] at hG'
      injection hG' with hG'
      injection hG' with e1 e2
      subst e1 e2 hl
      obtain ⟨g', l', c', e3, rfl⟩ := hx hnm
      injection e3 with e3 _ _
      injection e3 with e3
      injection e3 with e3
      subst e3
      have hpl := hr.cells_len
      have hcl := RL_cells ho hq
      have hvs : vy.cells.size = szOf P t := by rw [← hs, ← hcl.length]; simp
      have hin : (i + 1) * sz ≤ xs.length * sz := Nat.mul_le_mul_right _ (by omega)
      have hin' : (i + 1) * sz = i * sz + sz := by rw [Nat.add_mul, Nat.one_mul]
      have hxc' : xs.length * sz ≤ c * sz := Nat.mul_le_mul_right _ hxc
      have hrun := storeAt_run (k := i * sz + off) h2 hheap hvs (by omega) hcl.one
      have hlt : o < st'.length := (List.getElem?_eq_some_iff.1 hob).1
      have hbl : ∀ b, b < w.heap.size → χ' b ≠ .own o → (w.setRow g (setAt cur.toList (i * sz + off) vy.cells.toList).toArray).heap[b]? = w.heap[b]? := fun b hb hne => setRow_ne _ _ _ _ (fun e => hne (by rw [e]; exact hcol))
      have hk' : Keep χ' w χ' (w.setRow g (setAt cur.toList (i * sz + off) vy.cells.toList).toArray) := fun b hb hi => ⟨hi, hbl b hb (by rw [hi]; simp)⟩
      refine ⟨_, _, _, hR, hrun, (hf'.set (w' := w.setRow g (setAt cur.toList (i * sz + off) vy.cells.toList).toArray) (χ' := χ') (G' := G) hlt rfl rfl rfl (by simp) (fun b hb hne => ⟨rfl, hbl b hb hne⟩) (fun _ _ => rfl) ⟨fun g hg => hg, fun n hd hh => ⟨n, hd, hh, Nat.le_refl _, fun _ => rfl⟩⟩ ?_).two trivial⟩
      -- the element, written
      have hvl : vy.cells.toList.length = szOf P t := by simpa using hvs
      have hul : u.cells.toList.length = sz := by simpa using husz
      have hnew : ∃ u' : Value, RP χ' w ((xs[i]).setCells off q.cells) u' ∧ u'.cells.toList = setAt u.cells.toList off vy.cells.toList := by
        generalize xs[i] = p at *
        have single : (∀ ps, p ≠ .agg ps) → (∀ a, p ≠ .val (.agg a)) → p.setCells off q.cells = q.cells.getD 0 p ∧ p.cells.length = 1 ∧ u.cells = #[u] := by
          intro n1 n2
          cases p with
          | agg ps => exact absurd rfl (n1 ps)
          | val v =>
            have : u = v := hr
            subst this
            cases u <;> first | exact absurd rfl (n2 _) | exact ⟨rfl, rfl, rfl⟩
          | list sz nl ys =>
            obtain ⟨A, c, _, rfl, _⟩ := hr
            exact ⟨rfl, rfl, rfl⟩
        by_cases c1 : ∃ ps, p = .agg ps
        · obtain ⟨ps, rfl⟩ := c1
          obtain ⟨uu, rfl, hrl⟩ := hr
          refine ⟨.agg (setAt uu off vy.cells.toList).toArray, ⟨_, rfl, RL.setAt hcl off hrl⟩, by simp [Value.cells]⟩
        · by_cases c2 : ∃ a, p = .val (.agg a)
          · obtain ⟨aa, rfl⟩ := c2
            have : u = .agg aa := hr
            subst this
            refine ⟨.agg (setAt aa.toList off vy.cells.toList).toArray, ⟨_, rfl, RL.setAt hcl off (RL_vals aa.toList ?_)⟩, by simp [Value.cells]⟩
            rw [List.all_eq_true]
            intro y hy
            exact hone y (by simpa [Value.cells] using hy)
          · obtain ⟨s1, s2, s3⟩ := single (fun ps e => c1 ⟨ps, e⟩) (fun a e => c2 ⟨a, e⟩)
            rw [s1]
            rw [s2] at hk
            -- one cell, or none
            cases hqc : q.cells with
            | nil =>
              rw [hqc] at hcl
              have : vy.cells.toList = [] := by simpa [RL] using hcl
              refine ⟨u, by simpa using hr, ?_⟩
              rw [this]; rfl
            | cons q0 qs =>
              rw [hqc] at hcl hs
              obtain ⟨y0, r, hy0, _, hy1, hy2⟩ := hcl
              simp only [List.length_cons] at hs
              have hqs : qs = [] := List.eq_nil_of_length_eq_zero (by omega)
              subst hqs
              have hr0 : r = [] := by simpa [RL] using hy2
              subst hr0
              have hoff : off = 0 := by omega
              subst hoff
              refine ⟨y0, by simpa using hy1, ?_⟩
              rw [s3, hy0]
              have hy0c : y0.cells.toList = [y0] := by
                have : y0.oneCell' = true := by assumption
                cases y0 <;> simp_all [Value.cells, Value.oneCell']
              rw [hy0c]
              rfl
      obtain ⟨u', hu1, hu2⟩ := hnew
      have hsl : setAt u.cells.toList off vy.cells.toList = u.cells.toList.take off ++ vy.cells.toList ++ u.cells.toList.drop (off + vy.cells.toList.length) := setAt_eq _ _ _ (by omega)
      have hu3 : u'.cells.size = sz := by
        have : u'.cells.toList.length = sz := by rw [hu2, hsl]; simp; omega
        simpa using this
      have hu4 : ∀ y ∈ u'.cells.toList, y.oneCell' = true := by
        rw [hu2, hsl]
        intro y hy
        rcases List.mem_append.1 hy with hy | hy
        · rcases List.mem_append.1 hy with hy | hy
          · exact hone y (List.mem_of_mem_take hy)
          · exact hcl.one y hy
        · exact hone y (List.mem_of_mem_drop hy)
      have hset := hrf.set i hu1 hu3 hu4 hi
      refine ⟨_, _, hG, ⟨?_, .inr ⟨g, c, _, by rw [List.length_set], Nat.zero_le _, setRow_at w g _ _ e _ hheap, by simpa using hxc, hcm, ?_, ?_⟩⟩, RF.mono hk' _ _ _ hset, ?_, fun g' hg' => ?_⟩
      · rw [hset.len]
      · rw [setAt_eq _ _ _ (by simp; omega)]; simp; omega
      · -- the row's cells
        have hus : us.length = xs.length * sz := hrf.len
        have e5 : cur.toList = us ++ cur.toList.drop (xs.length * sz) := by rw [← htk]; simp
        have e6 : us = us.take (i * sz) ++ (u.cells.toList ++ us.drop (i * sz + sz)) := by rw [← hdrop]; simp
        have hA : (us.take (i * sz)).length = i * sz := by simp; omega
        rw [List.length_set, hu2]
        have hcl' : cur.toList.length = c * sz := by rw [Array.length_toList, hcs]
        exact row_store hA hus hul (by omega) e5 e6 (by omega)
      · rw [hnl]; simp
      · simp [Value.ownBlock] at hg'; subst hg'; exact hcol
    · exact h.elim
  · exact h.elim

theorem foldl_setAt (off : Nat) : ∀ (vs : List Value) (n : Nat) (cells : Array Value),
    ((vs.zipIdx n).foldl (fun cs (x : Value × Nat) => cs.setIfInBounds (off + x.2) x.1) cells).toList = setAt cells.toList (off + n) vs
  | [], n, cells => rfl
  | v :: vs, n, cells => by
    rw [List.zipIdx_cons, List.foldl_cons, foldl_setAt off vs (n + 1), setAt]
    simp [Nat.add_assoc]

theorem vfill_ok {place : Nat → Option (Nat × Nat)} {ρ : Nat × Operand → SV} : ∀ (l : List (Nat × Operand)) {cs : List SV} {us : List Value} {cs' : List SV}, (∀ x ∈ l, RS χ w G (ρ x) (a.eval x.2)) → RSL χ w G cs us →
    vfill place cs (l.map fun x => (x.1, ρ x)) = some cs' → ∃ us', Instr.fill place us.toArray (l.map fun x => (x.1, a.eval x.2)) = some (List.toArray us') ∧ RSL χ w G cs' us'
  | [], cs, us, cs', hρ, hl, h => by
    simp [vfill] at h
    subst h
    exact ⟨us, rfl, hl⟩
  | x :: l, cs, us, cs', hρ, hl, h => by
    simp only [List.map_cons, vfill] at h
    split at h
    · cases h
    · rename_i off size hp
      split at h
      · rename_i hc
        simp only [Bool.and_eq_true, beq_iff_eq, decide_eq_true_eq] at hc
        obtain ⟨⟨h1, h2⟩, h3⟩ := hc
        have hx := RSL_cells h1 (hρ x (by simp))
        have hlen := hx.length
        have hul := hl.length
        have hsz : (a.eval x.2).cells.size = size := by rw [← h2, ← hlen]; simp
        obtain ⟨us', g1, g2⟩ := vfill_ok l (fun y hy => hρ y (by simp [hy])) (RSL.setAt hx off hl) h
        refine ⟨us', ?_, g2⟩
        simp only [List.map_cons]
        unfold Instr.fill
        simp only [hp]
        rw [if_neg (by simp [hsz]; omega)]
        rw [← g1]
        congr 1
        apply Array.toList_inj.1
        have := foldl_setAt off (a.eval x.2).cells.toList 0 us.toArray
        simp only [Nat.add_zero] at this
        rw [← Array.foldl_toList, Array.toList_zipIdx]
        simpa using this
      · cases h

theorem build_ok {t : TypeId} {parts : Array (Nat × Operand)} {ρ : Operand → SV} {R : SV → Prop} (hρ : ∀ x, RS χ w G (ρ x) (a.eval x)) (h : vcBuild P t (parts.toList.map fun (i, x) => (i, ρ x)) R) :
    ∃ s v, R s ∧ (Instr.build t (parts.map fun (i, x) => (i, a.eval x))).run P w = .ok v w ∧ RS χ w G s v := by
  have fin : ∀ {z : Value} {place : Nat → Option (Nat × Nat)} {N : Nat → SV → SV} {cs' : List SV}, (z.cells.toList.all fun u => u.oneCell') = true → (∀ i s v, RS χ w G s v → RS χ w G (N i s) v) →
      vfill place (zeroCells z) ((parts.toList.map fun (i, x) => (i, ρ x)).map fun (i, v) => (i, N i v)) = some cs' →
      ∃ us', Instr.fill place z.cells (parts.map fun (i, x) => (i, a.eval x)).toList = some (List.toArray us') ∧ RSL χ w G cs' us' := by
    intro z place N cs' hz hN hv
    have hz0 : RSL χ w G (zeroCells z) z.cells.toList := RSL_ofV1 _ (by simpa using hz)
    have e1 : ((parts.toList.map fun (i, x) => (i, ρ x)).map fun (i, v) => (i, N i v)) = parts.toList.map fun x => (x.1, N x.1 (ρ x.2)) := by simp [List.map_map, Function.comp_def]
    rw [e1] at hv
    obtain ⟨us', g1, g2⟩ := vfill_ok (χ := χ) (w := w) (G := G) (a := a) (ρ := fun x => N x.1 (ρ x.2)) parts.toList (fun x _ => hN _ _ _ (hρ _)) hz0 hv
    exact ⟨us', by simpa using g1, g2⟩
  unfold vcBuild at h
  split at h
  · rename_i it n e hit hu
    split at h
    · rename_i z ie hz hie
      simp only [must_iff] at h
      obtain ⟨hz1, h⟩ := h
      split at h
      · rename_i cs hv
        obtain ⟨us', g1, g2⟩ := fin (N := fun _ v => nilAt P e v) hz1 (fun _ _ _ h => RS_nilAt h) hv
        exact ⟨_, _, h, run_build w t _ _ (by unfold Program.built; rw [hit, hu]; simp only [hz, hie]; exact g1), RS_mkAgg g2⟩
      · exact h.elim
    · exact h.elim
  · rename_i it fields hit hu
    split at h
    · rename_i z places hz hp
      simp only [must_iff] at h
      obtain ⟨hz1, h⟩ := h
      split at h
      · rename_i cs hv
        obtain ⟨us', g1, g2⟩ := fin (N := fun i v => match fields[i]? with | some f => nilAt P f.type v | none => v) hz1 (fun i _ _ h => by
          split
          · exact RS_nilAt h
          · exact h) hv
        exact ⟨_, _, h, run_build w t _ _ (by unfold Program.built; rw [hit, hu]; simp only [hz, hp]; exact g1), RS_mkAgg g2⟩
      · exact h.elim
    · exact h.elim
  · exact h.elim

theorem bound_run {x : SV} {vx : Value} {k : IntKind} {i : Int} (hx : RS χ w G (vI k i) vx) {y : Nat} (hi : 0 ≤ i ∧ i ≤ (y : Int)) (code : BoundsCode) : (Instr.sliceBound vx y code).run P w = .ok i.toNat w := by
  have : vx = .int k i := hx
  subst this
  simp [Instr.sliceBound, asIntOf, hi]

theorem slice_ok {qt : Bool} {t : TypeId} {x : SV} {vx : Value} {lo hi : Option Operand} {ρ : Operand → SV} {R : Res} (hρ : ∀ {χ : Nat → Color} {st : List Ob}, Fits E χ G ⟨env, st⟩ a w → ∀ x, RS χ w G (ρ x) (a.eval x))
    (hf : Fits E χ G ⟨env, st⟩ a w) (hx : RS χ w G x vx) (h : vcSlice P qt t x (lo.map ρ) (hi.map ρ) st R) :
    ∃ s v st', R s st' ∧ (Instr.sliceAt t vx (lo.map a.eval) (hi.map a.eval) none).run P w = .ok v w ∧ Rel2 E ⟨env, st'⟩ a w s v := by
  -- the bounds
  have bnds : ∀ {χ' : Nat → Color} {n c : Nat} {K : Nat → Nat → Prop} (isS : Bool), (∀ x, RS χ' w G (ρ x) (a.eval x)) → n ≤ c → vcBounds n (lo.map ρ) (hi.map ρ) K →
      ∃ l h, K l h ∧ l ≤ h ∧ h ≤ n ∧ (Instr.sliceBounds isS n c (lo.map a.eval) (hi.map a.eval) none).run P w = .ok (l, h, c) w := by
    intro χ' n c K isS hr hnc hb
    have hhi : ∃ h : Nat, h ≤ n ∧ ((∃ x, hi = some x ∧ ∃ k i, ρ x = vI k i ∧ (0 ≤ i ∧ i ≤ (n : Int)) ∧ h = i.toNat) ∨ (hi = none ∧ h = n)) ∧ vcLow h (lo.map ρ) K := by
      unfold vcBounds at hb
      cases hi with
      | none => exact ⟨n, Nat.le_refl _, .inr ⟨rfl, rfl⟩, hb⟩
      | some y =>
        simp only [Option.map_some] at hb
        split at hb
        · rename_i k i he
          exact ⟨i.toNat, by omega, .inl ⟨y, rfl, k, i, by simpa using he, hb.1, rfl⟩, hb.2⟩
        · exact hb.elim
        · rename_i hh; cases hh
    obtain ⟨h, hhn, hcase, hlo⟩ := hhi
    have hlo' : ∃ l : Nat, l ≤ h ∧ K l h ∧ ((∃ x, lo = some x ∧ ∃ k i, ρ x = vI k i ∧ (0 ≤ i ∧ i ≤ (h : Int)) ∧ l = i.toNat) ∨ (lo = none ∧ l = 0)) := by
      unfold vcLow at hlo
      cases lo with
      | none => exact ⟨0, Nat.zero_le _, hlo, .inr ⟨rfl, rfl⟩⟩
      | some y =>
        simp only [Option.map_some] at hlo
        split at hlo
        · rename_i k i he
          exact ⟨i.toNat, by omega, hlo.2, .inl ⟨y, rfl, k, i, by simpa using he, hlo.1, rfl⟩⟩
        · exact hlo.elim
        · rename_i hh; cases hh
    obtain ⟨l, hlh, hK, hcase2⟩ := hlo'
    refine ⟨l, h, hK, hlh, hhn, ?_⟩
    have hb2 : ∀ {x : Operand} {k i} {y : Nat} (code : BoundsCode), ρ x = vI k i → (0 ≤ i ∧ i ≤ (y : Int)) → (Instr.sliceBound (a.eval x) y code).run P w = .ok i.toNat w := fun {x k i y} code e hi => bound_run (χ := χ') (G := G) (x := .dead) (k := k) (by rw [← e]; exact hr x) hi code
    rcases hcase with ⟨y, rfl, k, i, e1, e2, rfl⟩ | ⟨rfl, rfl⟩
    · have r1 := fun code => hb2 (y := c) code e1 ⟨e2.1, by omega⟩
      rcases hcase2 with ⟨y', rfl, k', i', e1', e2', rfl⟩ | ⟨rfl, rfl⟩
      · have r2 := fun code => hb2 (y := i.toNat) code e1' e2'
        simp [Instr.sliceBounds, r1, r2]
      · simp [Instr.sliceBounds, r1]
    · rcases hcase2 with ⟨y', rfl, k', i', e1', e2', rfl⟩ | ⟨rfl, rfl⟩
      · have r2 := fun code => hb2 code e1' e2'
        simp [Instr.sliceBounds, r2]
      · simp [Instr.sliceBounds]
  unfold vcSlice at h
  split at h
  · rename_i s hu
    simp only [RS_val] at hx
    subst hx
    obtain ⟨l, h', hR, hlh, hhn, hrun⟩ := bnds false (hρ hf) (Nat.le_refl _) h
    exact ⟨_, _, _, hR, by simp [Instr.sliceAt, Instr.slice, run_underlying hu, hrun], hf.two rfl⟩
  · rename_i e o k n hu
    simp only [must_iff, Bool.and_eq_true, beq_iff_eq] at h
    obtain ⟨⟨hs, h2⟩, h⟩ := h
    obtain ⟨g, c, hG, rfl, hc1, hc2⟩ := hx
    obtain ⟨l, h', ⟨hln, hR⟩, hlh, hhn, hrun⟩ := bnds true (hρ hf) hc1 h
    have hne : ¬ c = l := by omega
    refine ⟨_, .slice (some ⟨g, k + l, none⟩) (h' - l) (c - l), _, hR, ?_, hf.two ⟨g, c - l, hG, rfl, by omega, by omega⟩⟩
    simp [Instr.sliceAt, Instr.slice, run_underlying hu, hrun, sizeOf_run h2, hs, hne, add_pl]
  · rename_i e hu hnos
    simp only [must_iff] at h
    obtain ⟨hi2, h⟩ := h
    obtain ⟨χ', p, st', h, hf', him, hp⟩ := pure_ok hf hx h
    split at h
    · rename_i sz nl xs
      simp only [must_iff, beq_iff_eq] at h
      obtain ⟨hsz, h⟩ := h
      obtain ⟨A, c, us, rfl, g2, g3, g4, g5, g6, g7⟩ := hp
      obtain ⟨l, h', hR, hlh, hhn, hrun⟩ := bnds true (hρ hf') g2 h
      refine ⟨_, .slice (if c = l then A else A.map (·.add (l * szOf P e))) (h' - l) (c - l), _, hR, by simp [Instr.sliceAt, Instr.slice, run_underlying hu, hrun, sizeOf_run hi2], hf'.two ?_⟩
      have hlen : ((xs.drop l).take (h' - l)).length = h' - l := by simp; omega
      refine ⟨_, _, (us.drop (l * sz)).take ((h' - l) * sz), by rw [hlen], by rw [hlen]; omega, by omega, fun hA => ?_, ?_, (g6.drop l).take _, ?_⟩
      · split at hA
        · rename_i e; omega
        · rw [Option.map_eq_none_iff] at hA; have := g4 hA; omega
      · rw [g5]
        split
        · exact Iff.rfl
        · rw [Option.map_eq_none_iff]
      · intro k u hku
        rw [List.getElem?_take] at hku
        split at hku
        · rename_i hk
          rw [List.getElem?_drop] at hku
          obtain ⟨ad, rfl, hc1, hc2⟩ := g7 _ _ hku
          have hne : ¬ c = l := by
            intro e
            have : h' - l = 0 := by omega
            rw [this] at hk
            omega
          rw [if_neg hne]
          refine ⟨_, rfl, by rw [add_blk]; exact hc1, ?_⟩
          rw [add_add, ← hsz]
          exact hc2
        · cases hku
    · exact h.elim
  · rename_i n e o k hu
    simp only [must_iff, Bool.and_eq_true, beq_iff_eq, decide_eq_true_eq] at h
    obtain ⟨⟨⟨⟨hs, h2⟩, hn⟩, _⟩, h⟩ := h
    obtain ⟨g, hG, rfl⟩ := hx
    have key : ∀ {st' : List Ob} {χ' : Nat → Color}, Fits E χ' G ⟨env, st'⟩ a w → vcBounds n (lo.map ρ) (hi.map ρ) (fun l h => l < n ∧ R (.sref o (k + l) (h - l)) st') →
        ∃ s v st', R s st' ∧ (Instr.sliceAt t (.pointer (some ⟨g, k, none⟩)) (lo.map a.eval) (hi.map a.eval) none).run P w = .ok v w ∧ Rel2 E ⟨env, st'⟩ a w s v := by
      intro st' χ' hf' hb
      obtain ⟨l, h', ⟨hln, hR⟩, hlh, hhn, hrun⟩ := bnds false (hρ hf') (Nat.le_refl _) hb
      have hne : ¬ n = l := by omega
      refine ⟨_, .slice (some ⟨g, k + l, none⟩) (h' - l) (n - l), _, hR, ?_, hf'.two ⟨g, n - l, hG, rfl, by omega, by simp only [maxLen]; omega⟩⟩
      simp [Instr.sliceAt, run_underlying hu, Instr.sureAddr, hrun, sizeOf_run h2, hs, hne, add_pl]
    split at h
    · exact key hf h
    · rename_i T cs hob
      split at h
      · rename_i ps hps
        obtain ⟨g', us, hG', hcol, hheap, hl⟩ := hf.2.1 o _ hob
        have hlt : o < st.length := (List.getElem?_eq_some_iff.1 hob).1
        refine key (hf.set (χ' := χ) (G' := G) hlt rfl rfl rfl (Nat.le_refl _) (fun b hb hne => ⟨rfl, rfl⟩) (fun _ _ => rfl) ⟨fun g hg => hg, fun n hd hh => ⟨n, hd, hh, Nat.le_refl _, fun _ => rfl⟩⟩ ?_) h
        exact ⟨g', us, [], hG', hcol, by rw [List.append_nil]; exact hheap, hl.length, RSL_unpures hps hl⟩
      · exact h.elim
    · exact h.elim
  · exact h.elim

theorem RL_append : ∀ {cs : List PV} {us : List Value}, RL χ w cs us → ∀ {cs' : List PV} {us' : List Value}, RL χ w cs' us' → RL χ w (cs ++ cs') (us ++ us')
  | [], us, h, cs', us', h' => by have : us = [] := h; subst this; exact h'
  | c :: cs, us, h, cs', us', h' => by
    obtain ⟨u, r, rfl, h1, h2, h3⟩ := h
    exact ⟨u, r ++ us', rfl, h1, h2, RL_append h3 h'⟩

theorem set_same {α : Type} {l : List α} {o : Nat} {x : α} (h : l[o]? = some x) : l.set o x = l := by
  apply List.ext_getElem?
  intro i
  rw [List.getElem?_set]
  split
  · rename_i e
    subst e
    rw [if_pos (List.getElem?_eq_some_iff.1 h).1, h]
  · rfl

theorem RF_flat {sz : Nat} : ∀ {xs : List PV} {us : List Value}, RF χ w sz xs us → RL χ w (xs.flatMap PV.cells) us
  | [], us, h => h
  | x :: xs, us, ⟨u, r, h1, h2, h3, h4, h5⟩ => by
    subst h1
    rw [List.flatMap_cons]
    exact RL_append (RL_cells (RP_one h4 h3) h4) (RF_flat h5)

theorem copy_ok {t t' ty : TypeId} {d x : SV} {vd vx : Value} {R : Res} (hf : Fits E χ G ⟨env, st⟩ a w) (hd : RS χ w G d vd) (hx : RS χ w G x vx) (h : vcCopy P t d x st R) :
    ∃ s v st' w', R s st' ∧ (Builtin.copy_ #[t, t'] ty #[vd, vx]).run P w = .ok v w' ∧ Rel2 E ⟨env, st'⟩ a w' s v := by
  unfold vcCopy at h
  split at h
  · rename_i e hu
    simp only [must_iff, Bool.and_eq_true, beq_iff_eq] at h
    obtain ⟨⟨hs, h2⟩, h⟩ := h
    have hs1 : (P.info? e).map (·.size) = some 1 := by
      cases hi : P.info? e with
      | none => rw [hi] at h2; cases h2
      | some i => simp [szOf, hi] at hs; simp [hs]
    obtain ⟨sz, ys, A, c, us, ⟨rfl, h⟩, rfl, hle, hmx, hr, hA, hcell⟩ := elems_reads hx hf.2.1 h
    have hul : us.length = ys.length := by rw [hr.len, Nat.mul_one]
    have htake : ∀ n, RF χ w 1 (ys.take n) (us.take n) := fun n => by simpa using hr.take n
    -- what goes over
    have hsrc : ∀ (n : Nat) (ad : Addr), A = some ad → ∀ j v, (us.take n)[j]? = some v → w.cell? (ad.add j) = some v := fun n ad e j v hj => by
      rw [List.getElem?_take] at hj
      split at hj
      · obtain ⟨ad', e', hc⟩ := hcell j v hj
        rw [e] at e'
        injection e' with e'
        subst e'
        exact hc
      · cases hj
    cases d with
    | sref o k n =>
      simp only at h
      obtain ⟨g, c', hG, rfl, hc1, hc2⟩ := hd
      split at h
      · rename_i T m xs hob
        obtain ⟨hkn, hR⟩ := h
        simp only [decide_eq_true_eq] at hkn
        obtain ⟨g', ws, vs, hG', hcol, hheap, hum, hl⟩ := hf.2.1 o _ hob
        rw [hG] at hG'
        injection hG' with hG'
        injection hG' with hG'
        subst hG'
        have hlt : o < st.length := (List.getElem?_eq_some_iff.1 hob).1
        have hlen := hl.length
        cases A with
        | none =>
          have hc0 := hA rfl
          have hy : ys = [] := List.eq_nil_of_length_eq_zero (by omega)
          subst hy
          have e1 : st.set o (.row T m (xs.take k ++ (([] : List PV).take n).flatMap PV.cells ++ xs.drop (k + min ([] : List PV).length n))) = st := by
            have : (xs.take k ++ (([] : List PV).take n).flatMap PV.cells ++ xs.drop (k + min ([] : List PV).length n)) = xs := by simp
            rw [this]
            exact set_same hob
          rw [e1] at hR
          exact ⟨_, _, _, w, hR, run_copy_none w t t' ty e _ _ n c' _ c hu hs1 (by simp), hf.two rfl⟩
        | some ad =>
          have hcs : (us.take n).length = min ys.length n := by rw [List.length_take, hul, Nat.min_comm]
          have hrun := run_copy_row (P := P) w t t' ty e g k n c' ad ys.length c (ws ++ vs).toArray T (us.take n) hu hs1 hheap hcs (hsrc n ad rfl) (by rw [hcs]; simp only [List.size_toArray, List.length_append]; omega) (htake n).one
          rw [hcs] at hrun
          have eap : (ws ++ vs).toArray.toList.take k ++ us.take n ++ (ws ++ vs).toArray.toList.drop (k + min ys.length n) = (ws.take k ++ us.take n ++ ws.drop (k + min ys.length n)) ++ vs := by
            simp only []
            rw [List.take_append_of_le_length (by omega), List.drop_append_of_le_length (by omega)]
            simp [List.append_assoc]
          rw [eap] at hrun
          have hbl : ∀ (cs : Array Value), ∀ b, b < w.heap.size → χ b ≠ .own o → (w.setRow g cs).heap[b]? = w.heap[b]? := fun cs b hb hne => setRow_ne _ _ _ _ (fun e => hne (by rw [e]; exact hcol))
          have hk' : ∀ cs, Keep χ w χ (w.setRow g cs) := fun cs b hb hi => ⟨hi, hbl cs b hb (by rw [hi]; simp)⟩
          refine ⟨_, _, _, _, hR, hrun, (hf.set (w' := w.setRow g ((ws.take k ++ us.take n ++ ws.drop (k + min ys.length n)) ++ vs).toArray) (χ' := χ) (G' := G) hlt rfl rfl rfl (by simp) (fun b hb hne => ⟨rfl, hbl _ b hb hne⟩) (fun _ _ => rfl) ⟨fun g hg => hg, fun n hd hh => ⟨n, hd, hh, Nat.le_refl _, fun _ => rfl⟩⟩ ?_).two rfl⟩
          refine ⟨g, ws.take k ++ us.take n ++ ws.drop (k + min ys.length n), vs, hG, hcol, setRow_at w g _ _ T _ hheap, ?_, ?_⟩
          · simp only [List.length_append, List.length_take, List.length_drop, hcs]
            omega
          · exact RL_append (RL_append (RL.mono (hk' _) _ _ (hl.take k)) (RL.mono (hk' _) _ _ (RF_flat (htake n)))) (RL.mono (hk' _) _ _ (hl.drop _))
      · exact h.elim
    | vref o v =>
      simp only at h
      split at h
      · rename_i m e' sz nl xs hob
        obtain ⟨⟨rfl, rfl⟩, hR⟩ := h
        obtain ⟨hd0, ws, hG, hown, hrx, hnl, hcol⟩ := hf.2.1 o _ hob
        obtain ⟨_, m', hd1, hG', hle', hv⟩ := hd
        rw [hG] at hG'
        injection hG' with hG'
        injection hG' with e1 e2
        subst e1 e2
        have := hv rfl
        subst this
        have hlt : o < st.length := (List.getElem?_eq_some_iff.1 hob).1
        have hwl : ws.length = xs.length := by rw [hown.1, Nat.mul_one]
        have same : (A = none ∨ xs.length = 0) → st.set o (.vec v e' 1 nl (ys.take xs.length ++ xs.drop (min ys.length xs.length))) = st ∧ min ys.length xs.length = 0 := by
          intro hz
          have h0 : min ys.length xs.length = 0 := by
            rcases hz with hz | hz
            · have := hA hz; omega
            · omega
          have : ys.take xs.length ++ xs.drop (min ys.length xs.length) = xs := by
            rw [h0]
            have : ys.take xs.length = [] := List.eq_nil_of_length_eq_zero (by rw [List.length_take]; omega)
            simp [this]
          rw [this]
          exact ⟨set_same hob, h0⟩
        have none_case : ∀ (d : Option Addr) (cap : Nat), vd = .slice d xs.length cap → (A = none ∨ xs.length = 0) →
            ∃ s v st' w', R s st' ∧ (Builtin.copy_ #[t, t'] ty #[vd, .slice A ys.length c]).run P w = .ok v w' ∧ Rel2 E ⟨env, st'⟩ a w' s v := by
          intro d cap e hz
          obtain ⟨e1, e2⟩ := same hz
          rw [e1, e2] at hR
          subst e
          exact ⟨_, _, _, w, hR, run_copy_none w t t' ty e _ _ _ _ _ _ hu hs1 e2, hf.two rfl⟩
        rcases hown.2 with ⟨rfl, h0⟩ | ⟨g, cap, cur, rfl, _, hg, hnc, hm, hcs, htk⟩
        · exact none_case none 0 (by rw [h0]) (.inr h0)
        · cases hA' : A with
          | none =>
            have := none_case (some ⟨g, 0, none⟩) cap rfl (.inl hA')
            rw [hA'] at this
            exact this
          | some ad =>
            have hcs' : (us.take xs.length).length = min ys.length xs.length := by rw [List.length_take, hul, Nat.min_comm]
            have hrun := run_copy_row (P := P) w t t' ty e g 0 xs.length cap ad ys.length c cur e' (us.take xs.length) hu hs1 hg hcs' (hsrc _ ad hA') (by rw [hcs']; omega) (htake _).one
            rw [hcs'] at hrun
            have hc1 := hcol g rfl
            have hbl : ∀ (cs : Array Value), ∀ b, b < w.heap.size → χ b ≠ .own o → (w.setRow g cs).heap[b]? = w.heap[b]? := fun cs b hb hne => setRow_ne _ _ _ _ (fun e => hne (by rw [e]; exact hc1))
            have hk' : ∀ cs, Keep χ w χ (w.setRow g cs) := fun cs b hb hi => ⟨hi, hbl cs b hb (by rw [hi]; simp)⟩
            refine ⟨_, _, _, _, hR, hrun, (hf.set (w' := w.setRow g (cur.toList.take 0 ++ us.take xs.length ++ cur.toList.drop (0 + min ys.length xs.length)).toArray) (χ' := χ) (G' := G) hlt rfl rfl rfl (by simp) (fun b hb hne => ⟨rfl, hbl _ b hb hne⟩) (fun _ _ => rfl) ⟨fun g hg => hg, fun n hd hh => ⟨n, hd, hh, Nat.le_refl _, fun _ => rfl⟩⟩ ?_).two rfl⟩
            have hn : (ys.take xs.length ++ xs.drop (min ys.length xs.length)).length = xs.length := by
              simp only [List.length_append, List.length_take, List.length_drop]; omega
            refine ⟨_, us.take xs.length ++ ws.drop (min ys.length xs.length), hG, ⟨by rw [hn]; simp only [List.length_append, List.length_take, List.length_drop]; omega, .inr ⟨g, cap, _, by rw [hn], Nat.zero_le _, setRow_at w g _ _ _ _ hg, by rw [hn]; exact hnc, hm, ?_, ?_⟩⟩, ?_, hnl, hcol⟩
            · simp only [List.take_zero, List.nil_append, Nat.zero_add, List.size_toArray, List.length_append, List.length_drop, hcs', Array.length_toList]
              omega
            · simp only [List.take_zero, List.nil_append, Nat.zero_add, hcs']
              rw [hn, ← htk, List.take_append]
              have e1 : (us.take xs.length).length = min ys.length xs.length := hcs'
              rw [e1, List.take_of_length_le (by omega), Nat.mul_one, List.drop_take]
            · have := (RF.mono (hk' ((cur.toList.take 0 ++ us.take xs.length ++ cur.toList.drop (0 + min ys.length xs.length)).toArray)) _ _ _ (htake xs.length)).append (RF.mono (hk' _) _ _ _ (hrx.drop (min ys.length xs.length)))
              simpa using this
      · exact h.elim
    | _ => exact h.elim
  · exact h.elim

theorem zeroCells_one (z : Value) (n : Nat) (hz : z.oneCell' = true) : (Builtin.zeroCells z.cells n).toList = List.replicate n z := by
  have hc : z.cells = #[z] := by cases z <;> simp_all [Value.cells, Value.oneCell']
  unfold Builtin.zeroCells
  rw [hc]
  apply List.ext_getElem
  · simp
  · intro i h1 h2
    simp [Nat.mod_one]

theorem clear_ok {t ty : TypeId} {x : SV} {vx : Value} {R : Res} (hf : Fits E χ G ⟨env, st⟩ a w) (hx : RS χ w G x vx) (h : vcClear P t x st R) :
    ∃ s v st' w', R s st' ∧ (Builtin.clear_ #[t] ty #[vx]).run P w = .ok v w' ∧ Rel2 E ⟨env, st'⟩ a w' s v := by
  unfold vcClear at h
  split at h
  · rename_i e hu
    split at h
    · rename_i i hi
      split at h
      · rename_i z hz
        simp only [must_iff, Bool.and_eq_true, beq_iff_eq] at h
        obtain ⟨⟨hs, hone⟩, h⟩ := h
        split at h
        · rename_i o k n
          obtain ⟨g, c, hG, rfl, hc1, hc2⟩ := hx
          split at h
          · rename_i T m xs hob
            obtain ⟨hkn, hR⟩ := h
            obtain ⟨g', ws, vs, hG', hcol, hheap, hum, hl⟩ := hf.2.1 o _ hob
            rw [hG] at hG'
            injection hG' with hG'
            injection hG' with hG'
            subst hG'
            have hlt : o < st.length := (List.getElem?_eq_some_iff.1 hob).1
            cases n with
            | zero =>
              have e1 : st.set o (.row T m (xs.take k ++ List.replicate 0 (ofV1 z) ++ xs.drop (k + 0))) = st := by
                have : xs.take k ++ List.replicate 0 (ofV1 z) ++ xs.drop (k + 0) = xs := by simp
                rw [this]
                exact set_same hob
              rw [e1] at hR
              refine ⟨_, .tuple #[], _, w, hR, ?_, hf.two ⟨[], rfl, rfl⟩⟩
              simp [Builtin.clear_, run_underlying hu]
            | succ n =>
              have hst := run_storeCells_at P g k T (List.replicate (n + 1) z) 0 (ws ++ vs).toArray w hheap (by simp; omega) (fun v hv => by rw [List.eq_of_mem_replicate hv]; exact hone)
              have hbl : ∀ (cs : Array Value), ∀ b, b < w.heap.size → χ b ≠ .own o → (w.setRow g cs).heap[b]? = w.heap[b]? := fun cs b hb hne => setRow_ne _ _ _ _ (fun e => hne (by rw [e]; exact hcol))
              have hk' : ∀ cs, Keep χ w χ (w.setRow g cs) := fun cs b hb hi => ⟨hi, hbl cs b hb (by rw [hi]; simp)⟩
              refine ⟨_, .tuple #[], _, w.setRow g ((ws.take k ++ List.replicate (n + 1) z ++ ws.drop (k + (n + 1))) ++ vs).toArray, hR, ?_, (hf.set (w' := w.setRow g ((ws.take k ++ List.replicate (n + 1) z ++ ws.drop (k + (n + 1))) ++ vs).toArray) (χ' := χ) (G' := G) hlt rfl rfl rfl (by simp) (fun b hb hne => ⟨rfl, hbl _ b hb hne⟩) (fun _ _ => rfl) ⟨fun g hg => hg, fun n hd hh => ⟨n, hd, hh, Nat.le_refl _, fun _ => rfl⟩⟩ ?_).two (s := .tup []) ⟨[], rfl, rfl⟩⟩
              · have hst' := hst
                simp only [Nat.add_zero, List.length_replicate] at hst'
                have eap : (ws ++ vs).take k ++ List.replicate (n + 1) z ++ (ws ++ vs).drop (k + (n + 1)) = (ws.take k ++ List.replicate (n + 1) z ++ ws.drop (k + (n + 1))) ++ vs := by
                  rw [List.take_append_of_le_length (by omega), List.drop_append_of_le_length (by omega)]
                  simp [List.append_assoc]
                rw [eap] at hst'
                simp [Builtin.clear_, run_underlying hu, zeroValue, typeInfo, hi, hz, zeroCells_one z _ hone, hst']
              · refine ⟨g, _, vs, hG, hcol, setRow_at w g _ _ T _ hheap, ?_, ?_⟩
                · simp only [List.length_append, List.length_take, List.length_drop, List.length_replicate]
                  omega
                · refine RL_append (RL_append (RL.mono (hk' _) _ _ (hl.take k)) ?_) (RL.mono (hk' _) _ _ (hl.drop _))
                  have : ∀ (χ : Nat → Color) (w : World) (n : Nat), RL χ w (List.replicate n (ofV1 z)) (List.replicate n z) := by
                    intro χ w n
                    induction n with
                    | zero => exact rfl
                    | succ n ih => exact ⟨z, _, rfl, hone, RP_ofV1 _ _ z, ih⟩
                  exact this _ _ _
          · exact h.elim
        · exact h.elim
      · exact h.elim
    · exact h.elim
  · exact h.elim
end
end Go.Sy
