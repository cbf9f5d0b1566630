/- The walk's operations are what the model does: new rows, appends, stores. -/
import Derived.Test.YtlnmkolppgkglaaSyI
set_option linter.all false
set_option maxHeartbeats 4000000
namespace Go.Sy
open Go.RowKit

section
variable {P : Program} {E : Ent} {χ : Nat → Color} {G : Gh} {env : List SV} {st : List Ob} {a : Act} {w : World}

theorem box_ok {t : TypeId} {x : SV} {vx : Value} {R : Res} (hf : Fits E χ G ⟨env, st⟩ a w) (hx : RS χ w G x vx) (h : vcBox t x st R) :
    ∃ s v st' w', R s st' ∧ (Instr.box t vx).run P w = .ok v w' ∧ Rel2 E ⟨env, st'⟩ a w' s v := by
  unfold vcBox at h
  simp only [must_iff] at h
  have hb := hf.box t (RSL_cells h.1 hx)
  refine ⟨_, .pointer (some ⟨w.heap.size, 0, none⟩), _, _, h.2, ?_, hb.two ⟨w.heap.size, upF_same _ _ _, rfl⟩⟩
  simp [Instr.box, newVar, newRow]

theorem RSL_ofV1 : ∀ (us : List Value), (us.all fun u => u.oneCell') = true → RSL χ w G (us.map fun u => .pure (ofV1 u)) us
  | [], _ => rfl
  | u :: us, h => by
    simp only [List.all_cons, Bool.and_eq_true] at h
    exact ⟨u, us, rfl, h.1, RP_ofV1 χ w u, RSL_ofV1 us h.2⟩

theorem alloc_ok {t : TypeId} {R : Res} (hf : Fits E χ G ⟨env, st⟩ a w) (h : vcAlloc P t st R) :
    ∃ s v st' w', R s st' ∧ (Instr.alloc t true (.tuple #[])).run P w = .ok v w' ∧ Rel2 E ⟨env, st'⟩ a w' s v := by
  unfold vcAlloc at h
  split at h
  · rename_i i hi
    split at h
    · rename_i z hz
      simp only [must_iff] at h
      have hb := hf.box t (RSL_ofV1 (χ := χ) (w := w) (G := G) z.cells.toList (by simpa using h.1))
      refine ⟨_, .pointer (some ⟨w.heap.size, 0, none⟩), _, _, h.2, ?_, hb.two ⟨w.heap.size, upF_same _ _ _, rfl⟩⟩
      simp [Instr.alloc, zeroValue, typeInfo, hi, hz, newVar, newRow]
    · exact h.elim
  · exact h.elim

theorem ownsRow_new (w' : World) (b e sz c n : Nat) (cur : Array Value) (us : List Value) (hh : w'.heap[b]? = some (.cells cur e (0, 0))) (hle : n ≤ c) (hm : c ≤ maxLen) (hs : cur.size = c * sz) (hu : us.length = n * sz) (htk : cur.toList.take (n * sz) = us) :
    w'.ownsRow 0 e sz (.slice (some ⟨b, 0, none⟩) n c) n us := ⟨hu, .inr ⟨b, c, cur, rfl, Nat.zero_le _, hh, hle, hm, hs, htk⟩⟩

theorem buildSlice_ok {qt : Bool} {t : TypeId} {len : Nat} {parts : Array (Nat × Operand)} {ρ : Operand → SV} {vec : Bool} {R : Res} (hρ : ∀ {χ : Nat → Color} {st : List Ob}, Fits E χ G ⟨env, st⟩ a w → ∀ x, RS χ w G (ρ x) (a.eval x))
    (hf : Fits E χ G ⟨env, st⟩ a w) (h : vcBuildSlice P qt t len (parts.toList.map fun (i, x) => (i, ρ x)) vec st R) :
    ∃ s v st' w', R s st' ∧ (Instr.buildSlice t len (parts.map fun (i, x) => (i, a.eval x))).run P w = .ok v w' ∧ Rel2 E ⟨env, st'⟩ a w' s v := by
  unfold vcBuildSlice at h
  split at h
  · rename_i e hu
    split at h
    · rename_i i hi
      simp only [must_iff, Bool.and_eq_true, beq_iff_eq, decide_eq_true_eq] at h
      obtain ⟨⟨⟨⟨hlen, hsm⟩, hpos⟩, hz⟩, h⟩ := h
      have hlen : parts.toList.length = len := by simpa using hlen
      cases hz0 : i.zero with
      | none => simp [hz0] at hz
      | some z =>
        have hsz : szOf P e = i.size := by simp [szOf, hi]
        obtain ⟨χ', ps, st', us, hR, hf', him, hr, hl, hzip, hall, hus⟩ := parts_ok hρ parts.toList 0 hf h
        rw [hsz] at hr hall
        have hul : us.length = len * i.size := by rw [hr.len, hl, hlen]
        -- the cells
        have hrun : ∃ cells : Array Value, cells.toList = us ∧ (Instr.buildSlice t len (parts.map fun (i, x) => (i, a.eval x))).run P w = .ok (.slice (some ⟨w.heap.size, 0, none⟩) len len) (w.alloc (.cells cells e)) := by
          by_cases h0 : len = 0
          · subst h0
            have hp0 : parts = #[] := by
              apply Array.toList_inj.1
              simpa using List.eq_nil_of_length_eq_zero hlen
            refine ⟨#[], ?_, ?_⟩
            · have : us = [] := List.eq_nil_of_length_eq_zero (by omega)
              simp [this]
            · simp [Instr.buildSlice, run_underlying hu, sizeOf, typeInfo, hi, hp0, Instr.fill, newRow]
              rw [show Array.range 0 = #[] from rfl]
              simp
          · refine ⟨us.toArray, rfl, ?_⟩
            refine run_buildSlice w t e len _ us.toArray i z hu hi hz0 (by omega) (by have := Nat.mul_pos (Nat.pos_of_ne_zero h0) hpos; omega) ?_
            rw [Array.toList_map, hzip, hus]
            exact Great.fill_whole hpos _ _ hall (by simp [← hlen])
        obtain ⟨cells, hc, hrun⟩ := hrun
        have hbl : ∀ b, b < w.heap.size → (w.alloc (.cells cells e)).heap[b]? = w.heap[b]? := fun b hb => Below.heap_alloc w _ b hb
        have hmx : len ≤ maxLen := by
          have : len ≤ len * i.size := Nat.le_mul_of_pos_right _ hpos
          simp only [maxLen]; omega
        have hcs : cells.size = len * i.size := by rw [← hul, ← hc]; simp
        cases vec with
        | true =>
          have hown : (w.alloc (.cells cells e)).ownsRow 0 e i.size (.slice (some ⟨w.heap.size, 0, none⟩) len len) ps.length us := by
            rw [hl, hlen]
            exact ownsRow_new _ _ _ _ _ _ cells us (heap_alloc_new w _) (Nat.le_refl _) hmx hcs hul (by rw [hc, List.take_of_length_le (by omega)])
          obtain ⟨χ2, hf2, hs2⟩ := hf'.newVec (w' := w.alloc (.cells cells e)) (e := e) (nl := false) (xs := ps) rfl rfl rfl (by simp) hbl hown hr (by simp) (fun g hg => by simp [Value.ownBlock] at hg; omega)
          exact ⟨_, _, _, _, hR, hrun, hf2.two hs2⟩
        | false =>
          have hk : Keep χ' w (upF χ' w.heap.size .imm) (w.alloc (.cells cells e)) := fun b hlt hi => ⟨by rw [upF_ne _ _ (by omega)]; exact hi, hbl b hlt⟩
          have hf2 : Fits E (upF χ' w.heap.size .imm) G ⟨env, st'⟩ a (w.alloc (.cells cells e)) := hf'.ext rfl rfl rfl (by simp) (fun b hb => ⟨upF_ne _ _ (by omega), hbl b hb⟩)
          refine ⟨_, _, _, _, hR, hrun, hf2.two ?_⟩
          refine ⟨?_, _, by rw [hl, hlen]⟩
          refine ⟨_, len, us, by rw [hl, hlen], by rw [hl, hlen]; exact Nat.le_refl _, hmx, fun h => (by cases h), by simp, RF.mono hk _ _ _ hr, fun k u hku => ⟨_, rfl, upF_same _ _ _, ?_⟩⟩
          rw [add_pl, Nat.zero_add, World.cell?_alloc_new, ← hku, ← hc]
          simp
    · exact h.elim
  · exact h.elim

theorem madeCells_succ (z : Array Value) (n : Nat) : (madeCells z ((n + 1) * z.size)).toList = z.toList ++ (madeCells z (n * z.size)).toList := by
  apply List.ext_getElem
  · simp [madeCells, Nat.add_mul]; omega
  · intro k h1 h2
    have hk : k < (n + 1) * z.size := by simpa [madeCells] using h1
    simp only [madeCells, Array.toList_map, Array.toList_range, List.getElem_map, List.getElem_range]
    rw [List.getElem_append]
    split
    · rename_i hlt
      have hlt : k < z.size := by simpa using hlt
      rw [Nat.mod_eq_of_lt hlt, getElem!_pos z k hlt]
      simp
    · rename_i hge
      have hge : z.size ≤ k := by simpa using hge
      simp only [List.getElem_map, List.getElem_range, Array.length_toList]
      rw [Nat.mod_eq_sub_mod hge]

theorem RF_made {sz : Nat} {z : Value} (hz : z.cells.size = sz) (ho : (z.cells.all fun u => u.oneCell') = true) : ∀ n : Nat, RF χ w sz (List.replicate n (ofV z)) (madeCells z.cells (n * sz)).toList
  | 0 => by simp [RF, madeCells]
  | n + 1 => by
    subst hz
    rw [madeCells_succ]
    exact ⟨z, _, rfl, rfl, fun y hy => by
      rw [Array.all_eq_true'] at ho
      exact ho y (by simpa using hy), RP_ofV χ w z, RF_made rfl ho n⟩

theorem makeSlice_ok {t : TypeId} {l c : SV} {vl vc : Value} {R : Res} (hf : Fits E χ G ⟨env, st⟩ a w) (hl : RS χ w G l vl) (hc : RS χ w G c vc) (h : vcMakeSlice P t l c st R) :
    ∃ s v st' w', R s st' ∧ (Instr.makeSlice t vl vc).run P w = .ok v w' ∧ Rel2 E ⟨env, st'⟩ a w' s v := by
  unfold vcMakeSlice at h
  split at h
  · rename_i e n m hu
    simp only [RS_val] at hl hc
    subst hl hc
    split at h
    · rename_i i hi
      split at h
      · rename_i z hz
        simp only [must_iff, Bool.and_eq_true, beq_iff_eq, decide_eq_true_eq] at h
        obtain ⟨⟨⟨hpos, hzs⟩, hone⟩, ⟨h0, hnm, hb, hm⟩, hR⟩ := h
        have hrun := run_make (P := P) w t e i z hu hi hz .i64 .i64 n m h0 hnm (Int.le_trans (by rw [Int.mul_comm]; exact hb) (by decide)) (by omega)
        have hbl : ∀ b, b < w.heap.size → (w.alloc (.cells (madeCells z.cells (m.toNat * i.size)) e)).heap[b]? = w.heap[b]? := fun b hb => Below.heap_alloc w _ b hb
        have hrf := RF_made (χ := χ) (w := w) hzs (by rw [← Array.all_toList]; exact hone) n.toNat
        have hown : (w.alloc (.cells (madeCells z.cells (m.toNat * i.size)) e)).ownsRow 0 e i.size (.slice (some ⟨w.heap.size, 0, none⟩) n.toNat m.toNat) (List.replicate n.toNat (ofV z)).length (madeCells z.cells (n.toNat * i.size)).toList := by
          rw [List.length_replicate]
          refine ownsRow_new _ _ _ _ _ _ _ _ (heap_alloc_new w _) (show n.toNat ≤ m.toNat by omega) (by simp only [maxLen]; omega) (by simp [madeCells]) (by simp [madeCells]) ?_
          apply List.ext_getElem
          · have hle : min n.toNat m.toNat = n.toNat := by omega
            simp [madeCells, hle]
          · intro k h1 h2
            simp [madeCells]
        obtain ⟨χ2, hf2, hs2⟩ := hf.newVec (w' := w.alloc (.cells (madeCells z.cells (m.toNat * i.size)) e)) (e := e) (nl := false) rfl rfl rfl (by simp) hbl hown hrf (by simp) (fun g hg => by simp [Value.ownBlock] at hg; omega)
        exact ⟨_, _, _, _, hR, hrun, hf2.two hs2⟩
      · exact h.elim
    · exact h.elim
  · exact h.elim

theorem convBytes_ok {s d : TypeId} {b : ByteArray} {e : TypeId} {R : Res} (hf : Fits E χ G ⟨env, st⟩ a w) (hd : P.underlying d = some (.slice e)) (h : vcConv P s d (vS b) st fun s' => R s' st) :
    ∃ s' v st' w', R s' st' ∧ (convert s d (.string b)).run P w = .ok v w' ∧ Rel2 E ⟨env, st'⟩ a w' s' v := by
  simp only [vcConv, hd] at h
  split at h
  · rename_i hh; cases hh
  · rename_i e' hs hd'
    injection hd' with hd'
    injection hd' with hd'
    subst hd'
    simp only [must_iff] at h
    obtain ⟨he, hsz, hR⟩ := h
    have he : P.underlying e = some (.int .u8) := by unfold isU8 at he; split at he <;> simp_all
    have hbl := Lib.bytesWorld_at_old w e b
    have hf2 : Fits E (upF χ w.heap.size .imm) G ⟨env, st⟩ a (Lib.bytesWorld w e b) := hf.ext rfl rfl rfl (by rw [Lib.bytesWorld_size]; omega) (fun k hk => ⟨upF_ne _ _ (by omega), hbl k hk⟩)
    have hl : (b.data.toList.map fun c => PV.val (.int .u8 c.toNat)).length = b.size := by simp
    refine ⟨_, _, _, _, hR, Lib.run_convert_string_bytes w s d e b hs hd he, hf2.two ?_⟩
    have hu8 : ∀ l : List UInt8, RF (upF χ w.heap.size .imm) (Lib.bytesWorld w e b) 1 (l.map fun c => PV.val (.int .u8 c.toNat)) (l.map fun c => .int .u8 c.toNat) := by
      intro l
      induction l with
      | nil => rfl
      | cons c l ih => exact ⟨.int .u8 c.toNat, _, rfl, rfl, by simp [Value.cells, Value.oneCell'], rfl, ih⟩
    refine ⟨_, _, _, by rw [hl], by rw [hl]; exact grownCap_ge w b.size 0 e, grownCap_le_maxLen w b.size 0 e (by simp only [maxLen]; omega), fun h => (by cases h), by simp, hu8 _, fun k u hk => ⟨_, rfl, upF_same _ _ _, ?_⟩⟩
    rw [add_pl, Nat.zero_add]
    have hkl : k < b.data.toList.length := by
      have := (List.getElem?_eq_some_iff.1 hk).1
      simpa using this
    rw [Lib.bytesWorld_cell w e b k (by simpa using hkl), ← hk]
    rw [List.getElem?_map, List.getElem?_eq_getElem hkl, List.getD_eq_getElem?_getD, List.getElem?_eq_getElem hkl]
    rfl
  · exact h.elim


/-- An append of nothing onto a full row. -/
theorem append_none {t ty e : TypeId} {i : TypeInfo} {a0 : Addr} {n : Nat} {A : Option Addr} {c : Nat} (hu : P.underlying t = some (.slice e)) (hi : P.info? e = some i) :
    (Builtin.append_ #[t, t] ty #[.slice (some a0) n n, .slice A 0 c]).run P w = .ok (.slice (some a0) n n) w := by
  cases A with
  | none => simp [Builtin.append_, run_underlying hu, sizeOf, typeInfo, hi, Builtin.lenOf, Builtin.firstCells, storeCells]
  | some ad =>
    have hfc := run_firstCells_some (P := P) w i.size 0 ad 0 c [] (by simp) (by simp)
    simp [Builtin.append_, run_underlying hu, sizeOf, typeInfo, hi, Builtin.lenOf, hfc, storeCells]
theorem ownsRow_base {b e sz n : Nat} {v : Value} {us : List Value} (h : w.ownsRow b e sz v n us) : w.ownsRow 0 e sz v n us := by
  obtain ⟨h1, h2 | ⟨g, c, cur, h3, h4, h5⟩⟩ := h
  · exact ⟨h1, .inl h2⟩
  · exact ⟨h1, .inr ⟨g, c, cur, h3, Nat.zero_le _, h5⟩⟩
theorem ownsRow_nil {b e sz n : Nat} {us : List Value} (h : w.ownsRow b e sz (.slice none 0 0) n us) : n = 0 := by
  obtain ⟨h1, h2 | ⟨g, c, cur, h3, h4, h5⟩⟩ := h
  · exact h2.2
  · cases h3
theorem ownsRow_ge {b e sz n : Nat} {v : Value} {us : List Value} (h : w.ownsRow b e sz v n us) {g : Nat} (hg : v.ownBlock = some g) : b ≤ g := by
  obtain ⟨h1, h2 | ⟨g', c, cur, h3, h4, h5⟩⟩ := h
  · rw [h2.1] at hg; cases hg
  · rw [h3] at hg; simp [Value.ownBlock] at hg; omega

theorem append_ok {t t' ty : TypeId} {s x : SV} {vs vx : Value} {R : Res} (hf : Fits E χ G ⟨env, st⟩ a w) (hs : RS χ w G s vs) (hx : RS χ w G x vx) (h : vcAppend P t t' s x st R) :
    ∃ r v st' w', R r st' ∧ (Builtin.append_ #[t, t'] ty #[vs, vx]).run P w = .ok v w' ∧ Rel2 E ⟨env, st'⟩ a w' r v := by
  unfold vcAppend at h
  split at h
  · rename_i e hu
    split at h
    · rename_i i hi
      simp only [must_iff, Bool.and_eq_true, beq_iff_eq, decide_eq_true_eq] at h
      obtain ⟨⟨⟨⟨rfl, hpos⟩, hbpos⟩, hz⟩, h⟩ := h
      cases hz0 : i.zero with
      | none => simp [hz0] at hz
      | some z =>
        have hzs : z.cells.size = i.size := by simpa [hz0] using hz
        obtain ⟨sz', ys, A, c, us, ⟨hsz, h⟩, rfl, hle, hmx, hr, hA, hcell⟩ := elems_reads hx hf.2.1 h
        -- the new elements' cells
        have hul : us.length = ys.length * i.size := by
          rcases Bool.or_eq_true_iff.1 hsz with h | h
          · rw [hr.len, beq_iff_eq.1 h]
          · have : ys = [] := by simpa using h
            subst this
            simp [RF] at hr
            simp [hr]
        have hr : RF χ w i.size ys us := by
          rcases Bool.or_eq_true_iff.1 hsz with h | h
          · rw [← beq_iff_eq.1 h]; exact hr
          · have : ys = [] := by simpa using h
            subst this
            simpa [RF] using hr
        -- a row of one's own, and what the append makes of it
        have key : ∀ (hd : Value) (xs : List PV) (ws : List Value), w.ownsRow 0 e i.size hd xs.length ws → (xs.length + ys.length) * i.bytes ≤ 140737488355328 →
            ∃ v' w', (Builtin.append_ #[t', t'] ty #[hd, .slice A ys.length c]).run P w = .ok v' w' ∧ w'.ownsRow 0 e i.size v' (xs.length + ys.length) (ws ++ us) ∧ w.grownBy w' hd.ownBlock ∧
              (v' = .slice none 0 0 ↔ hd = .slice none 0 0 ∧ ys.length = 0) ∧ (v'.ownBlock = hd.ownBlock ∨ v'.ownBlock = some w.heap.size) := by
          intro hd xs ws hown hb
          have hlen63 : xs.length + ys.length ≤ maxLen := by
            have := Nat.le_mul_of_pos_right (xs.length + ys.length) hbpos
            simp only [maxLen]; omega
          cases A with
          | none =>
            have := hA rfl
            have h0 : ys.length = 0 := by omega
            have hy : ys = [] := List.eq_nil_of_length_eq_zero h0
            subst hy
            have hus : us = [] := by simpa [RF] using hr
            subst hus
            refine ⟨hd, w, ?_, by simpa using hown, World.grownBy.refl w _, by simp, .inl rfl⟩
            rcases hown.2 with ⟨rfl, hn⟩ | ⟨g, cap, cur, rfl, _, _, hnc, _⟩
            · simp [Builtin.append_, run_underlying hu, sizeOf, typeInfo, hi, Builtin.lenOf, Builtin.firstCells]
            · simp [Builtin.append_, run_underlying hu, sizeOf, typeInfo, hi, Builtin.lenOf, Builtin.firstCells, hnc, storeCells]
          | some ad =>
            exact run_append_own_at (P := P) w 0 t' ty e i z i.size i.bytes hu hi hz0 rfl rfl hzs hpos hd xs.length ws hown ad ys.length c us hul
              (fun j u hu => by obtain ⟨ad', e', hc⟩ := hcell j u hu; injection e' with e'; subst e'; exact hc) hr.one hlen63 hb (Nat.zero_le _)
        split at h
        · -- onto nil
          rename_i sz0
          obtain ⟨A0, c0, us0, rfl, g2, g3, g4, g5, g6, g7⟩ := hs
          have hA0 : A0 = none := g5.1 rfl
          subst hA0
          have hc0 := g4 rfl
          subst hc0
          obtain ⟨v', w', hrun, hown', hg, hnil, hat⟩ := key (.slice none 0 0) [] [] ⟨by simp, .inl ⟨rfl, rfl⟩⟩ (by simpa using h.1)
          simp only [List.length_nil, Nat.zero_add, List.nil_append] at hown'
          have hbl : ∀ b, b < w.heap.size → w'.heap[b]? = w.heap[b]? := fun b hb => hg.block b hb (by simp [Value.ownBlock])
          obtain ⟨χ2, hf2, hs2⟩ := hf.newVec (w' := w') (nl := ys.isEmpty) hg.os hg.tape hg.output hg.size hbl hown' hr
            (by rw [hnil]; simp [List.isEmpty_iff]) (fun g hg' => by
              rcases hat with e1 | e1
              · rw [e1] at hg'; simp [Value.ownBlock] at hg'
              · rw [e1] at hg'; injection hg' with hg'; omega)
          exact ⟨_, v', _, w', h.2, by simpa using hrun, hf2.two hs2⟩
        · -- onto a vec
          rename_i o n hh0
          split at h
          · rename_i m e' sz nl xs hob
            obtain ⟨⟨⟨rfl, rfl⟩, hnm⟩, hb, hR⟩ := h
            have hnm' : m = n := hnm.symm
            subst hnm'
            obtain ⟨_, m', hd0, hG, _, hv⟩ := hs
            obtain ⟨hd, ws, hG', hown, hrx, hnl, hcol⟩ := hf.2.1 o _ hob
            rw [hG] at hG'
            injection hG' with hG'
            injection hG' with e1 e2
            subst e1 e2
            have := hv rfl
            subst this
            obtain ⟨v', w', hrun, hown', hg, hnil, hat⟩ := key vs xs ws hown hb
            have hlt : o < st.length := (List.getElem?_eq_some_iff.1 hob).1
            have hbl : ∀ b, b < w.heap.size → χ b ≠ .own o → w'.heap[b]? = w.heap[b]? := fun b hb hne => hg.block b hb (fun e => hne (hcol b e.symm))
            -- the colours
            have hk : Keep χ w (fun b => if v'.ownBlock = some b then .own o else χ b) w' := fun b hb hi => by
              have hne : χ b ≠ .own o := by rw [hi]; simp
              refine ⟨?_, hbl b hb hne⟩
              simp only
              rw [if_neg (fun e => ?_)]
              · exact hi
              · rcases hat with e1 | e1
                · exact hne (hcol b (by rw [← e1]; exact e))
                · rw [e1] at e; injection e with e; omega
            refine ⟨_, v', _, w', hR, hrun, ?_⟩
            have hf2 : Fits E (fun b => if v'.ownBlock = some b then .own o else χ b) (upF G o (some (.ver (m' + 1) v'))) ⟨env, st.set o (.vec (m' + 1) e' i.size (nl && ys.isEmpty) (xs ++ ys))⟩ a w' := by
              refine hf.set hlt hg.os hg.tape hg.output hg.size (fun b hb hne => ⟨?_, hbl b hb hne⟩) (fun o' ho' => upF_ne _ _ ho') ⟨fun g hg' => (by rw [hG] at hg'; cases hg'), fun n' hd' hh => ?_⟩ ?_
              · rw [if_neg (fun e => ?_)]
                rcases hat with e1 | e1
                · exact hne (hcol b (by rw [← e1]; exact e))
                · rw [e1] at e; injection e with e; omega
              · rw [hG] at hh
                injection hh with hh
                injection hh with e1 e2
                subst e1 e2
                exact ⟨m' + 1, v', upF_same _ _ _, by omega, fun h => by omega⟩
              · refine ⟨v', ws ++ us, upF_same _ _ _, by rw [List.length_append]; exact hown', (RF.mono hk _ _ _ hrx).append (RF.mono hk _ _ _ hr), ?_, fun g hg' => by simp [hg']⟩
                rw [hnil, Bool.and_eq_true, hnl]
                simp [List.isEmpty_iff]
            refine hf2.two ⟨?_, m' + 1, v', upF_same _ _ _, Nat.le_refl _, fun _ => rfl⟩
            rcases hown'.2 with ⟨rfl, _⟩ | ⟨g, c, cur, rfl, _⟩ <;> rfl
          · exact h.elim
        · -- onto a full row
          rename_i sz0 xs hh0
          obtain ⟨rfl, hb, hR0, hR1⟩ := h
          obtain ⟨⟨A0, c0, us0, rfl, g2, g3, g4, g5, g6, g7⟩, A0', e0⟩ := hs
          simp only [Value.slice.injEq] at e0
          obtain ⟨rfl, -, rfl⟩ := e0
          cases A0 with
          | none => exact absurd (g5.2 rfl) (by simp)
          | some a0 =>
            by_cases hys : ys = []
            · subst hys
              have hus : us = [] := by simpa [RF] using hr
              subst hus
              refine ⟨_, .slice (some a0) xs.length xs.length, _, w, hR0 rfl, ?_, hf.two ⟨⟨some a0, xs.length, us0, rfl, g2, g3, g4, g5, g6, g7⟩, some a0, rfl⟩⟩
              exact append_none hu hi
            · have hm : ys.length ≠ 0 := fun e => hys (List.eq_nil_of_length_eq_zero e)
              cases A with
              | none => have := hA rfl; omega
              | some ad =>
                have hlen63 : xs.length + ys.length ≤ maxLen := by
                  have := Nat.le_mul_of_pos_right (xs.length + ys.length) hbpos
                  simp only [maxLen]; omega
                obtain ⟨v', w', hrun, hown', hg⟩ := run_append_arg_grows (P := P) w t' ty e i z i.size i.bytes hu hi hz0 rfl rfl hzs hpos a0 xs.length xs.length us0 g6.len
                  (fun j u hu => by obtain ⟨ad', e', _, hc⟩ := g7 j u hu; injection e' with e'; subst e'; exact hc) ad ys.length c us hul
                  (fun j u hu => by obtain ⟨ad', e', hc⟩ := hcell j u hu; injection e' with e'; subst e'; exact hc) (by omega) hlen63 hb
                have hbl : ∀ b, b < w.heap.size → w'.heap[b]? = w.heap[b]? := fun b hb => hg.block b hb (by simp)
                have hown0 : w'.ownsRow 0 e i.size v' (xs ++ ys).length (us0 ++ us) := by
                  rw [List.length_append]
                  exact ownsRow_base hown'
                obtain ⟨χ2, hf2, hs2⟩ := hf.newVec (w' := w') (nl := false) hg.os hg.tape hg.output hg.size hbl hown0 (g6.append hr)
                  (by
                    refine ⟨fun h => (by cases h), fun h => ?_⟩
                    subst h
                    have := ownsRow_nil hown'
                    omega) (fun g hg' => ownsRow_ge hown' hg')
                exact ⟨_, v', _, w', hR1 hys, hrun, hf2.two hs2⟩
        · exact h.elim
    · exact h.elim
  · exact h.elim

/-- An append that leaves the objects as they are. -/
theorem appendQ_ok {t t' ty : TypeId} {s x : SV} {vs vx : Value} {R : SV → Prop} (hf : Fits E χ G ⟨env, st⟩ a w) (hs : RS χ w G s vs) (hx : RS χ w G x vx) (h : vcAppendQ P t t' s x st R) :
    ∃ r v w', R r ∧ (Builtin.append_ #[t, t'] ty #[vs, vx]).run P w = .ok v w' ∧ Rel2 E ⟨env, st⟩ a w' r v := by
  unfold vcAppendQ at h
  split at h
  · rename_i e hu
    split at h
    · rename_i i hi
      simp only [must_iff, Bool.and_eq_true, beq_iff_eq, decide_eq_true_eq] at h
      obtain ⟨⟨⟨⟨rfl, hpos⟩, hbpos⟩, hz⟩, h⟩ := h
      cases hz0 : i.zero with
      | none => simp [hz0] at hz
      | some z =>
        have hzs : z.cells.size = i.size := by simpa [hz0] using hz
        obtain ⟨sz', ys, A, c, us, ⟨hsz, h⟩, rfl, hle, hmx, hr, hA, hcell⟩ := elems_reads hx hf.2.1 h
        have hr : RF χ w i.size ys us := by
          rcases Bool.or_eq_true_iff.1 hsz with h | h
          · rw [← beq_iff_eq.1 h]; exact hr
          · have : ys = [] := by simpa using h
            subst this
            simpa [RF] using hr
        have hul : us.length = ys.length * i.size := hr.len
        -- a new row
        have fin : ∀ {v' : Value} {w' : World} {nl : Bool} {zs : List PV} {ws : List Value}, zs.length ≤ maxLen → RF χ w i.size zs ws → w'.ownsRow w.heap.size e i.size v' zs.length ws → w.grownBy w' none → (nl = true ↔ v' = .slice none 0 0) →
            Rel2 E ⟨env, st⟩ a w' (.pure (.list i.size nl zs)) v' := by
          intro v' w' nl zs ws hz63 hrz hown' hg hnl
          have hbl : ∀ b, b < w.heap.size → w'.heap[b]? = w.heap[b]? := fun b hb => hg.block b hb (by simp)
          have hk : Keep χ w (fun b => if b < w.heap.size then χ b else .imm) w' := fun b hlt hi => ⟨by simp only; rw [if_pos hlt]; exact hi, hbl b hlt⟩
          have hf2 : Fits E (fun b => if b < w.heap.size then χ b else .imm) G ⟨env, st⟩ a w' := hf.ext hg.os hg.tape hg.output hg.size (fun b hb => ⟨if_pos hb, hbl b hb⟩)
          refine hf2.two ?_
          obtain ⟨hl', hrest⟩ := hown'
          rcases hrest with ⟨rfl, h0⟩ | ⟨g, c, cur, rfl, hge, hg', hle', hm, hcs, htk⟩
          · have hzs0 : zs = [] := List.eq_nil_of_length_eq_zero h0
            subst hzs0
            have : ws = [] := by simpa [RF] using hrz
            subst this
            exact ⟨none, 0, [], rfl, Nat.le_refl _, by simp [maxLen], fun _ => rfl, ⟨fun _ => rfl, fun _ => hnl.2 rfl⟩, rfl, fun k u hu => by simp at hu⟩
          · refine ⟨some ⟨g, 0, none⟩, c, ws, rfl, hle', hm, fun h => (by cases h), ⟨fun h => (by have := hnl.1 h; simp at this), fun h => (by cases h)⟩, RF.mono hk _ _ _ hrz, fun k u hu => ⟨_, rfl, ?_, ?_⟩⟩
            · show (if g < w.heap.size then χ g else Color.imm) = .imm
              rw [if_neg (by omega)]
            · rw [add_pl, World.cell?, hg']
              simp only [Option.isSome_none, Bool.false_eq_true, if_false, Nat.zero_add]
              rw [← htk, List.getElem?_take] at hu
              split at hu
              · simpa using hu
              · cases hu
        split at h
        · -- onto nil
          rename_i sz0
          obtain ⟨A0, c0, us0, rfl, g2, g3, g4, g5, g6, g7⟩ := hs
          have hA0 : A0 = none := g5.1 rfl
          subst hA0
          have hc0 := g4 rfl
          subst hc0
          have hlen63 : ys.length ≤ maxLen := by omega
          by_cases hys : ys = []
          · subst hys
            have hus : us = [] := by simpa [RF] using hr
            subst hus
            refine ⟨_, .slice none 0 0, w, h.2, ?_, hf.two ⟨none, 0, [], rfl, Nat.le_refl _, by simp [maxLen], fun _ => rfl, by simp, rfl, fun k u hu => by simp at hu⟩⟩
            cases A with
            | none => simp [Builtin.append_, run_underlying hu, sizeOf, typeInfo, hi, Builtin.lenOf, Builtin.firstCells]
            | some ad =>
              have hfc := run_firstCells_some (P := P) w i.size 0 ad 0 c [] (by simp) (by simp)
              simp [Builtin.append_, run_underlying hu, sizeOf, typeInfo, hi, Builtin.lenOf, hfc]
          · have hm : ys.length ≠ 0 := fun e => hys (List.eq_nil_of_length_eq_zero e)
            cases A with
            | none => have := hA rfl; omega
            | some ad =>
              obtain ⟨v', w', hrun, hown', hg, hnil, hat⟩ := run_append_own_at (P := P) w w.heap.size t' ty e i z i.size i.bytes hu hi hz0 rfl rfl hzs hpos (.slice none 0 0) 0 [] ⟨by simp, .inl ⟨rfl, rfl⟩⟩ ad ys.length c us hul
                (fun j u hu => by obtain ⟨ad', e', hc⟩ := hcell j u hu; injection e' with e'; subst e'; exact hc) hr.one (by omega) (by simpa using h.1) (Nat.le_refl _)
              simp only [Nat.zero_add, List.nil_append] at hown'
              refine ⟨_, v', w', h.2, by simpa using hrun, fin hlen63 hr hown' hg ?_⟩
              rw [hnil]
              simp [List.isEmpty_iff]
        · -- onto a full row
          rename_i sz0 xs hh0
          obtain ⟨rfl, hb, hR⟩ := h
          obtain ⟨⟨A0, c0, us0, rfl, g2, g3, g4, g5, g6, g7⟩, A0', e0⟩ := hs
          simp only [Value.slice.injEq] at e0
          obtain ⟨rfl, -, rfl⟩ := e0
          cases A0 with
          | none => exact absurd (g5.2 rfl) (by simp)
          | some a0 =>
            by_cases hys : ys = []
            · subst hys
              have hus : us = [] := by simpa [RF] using hr
              subst hus
              rw [List.append_nil] at hR
              exact ⟨_, .slice (some a0) xs.length xs.length, w, hR, append_none hu hi, hf.two ⟨some a0, xs.length, us0, rfl, g2, g3, g4, g5, g6, g7⟩⟩
            · have hm : ys.length ≠ 0 := fun e => hys (List.eq_nil_of_length_eq_zero e)
              cases A with
              | none => have := hA rfl; omega
              | some ad =>
                have hlen63 : xs.length + ys.length ≤ maxLen := by
                  have := Nat.le_mul_of_pos_right (xs.length + ys.length) hbpos
                  simp only [maxLen]; omega
                obtain ⟨v', w', hrun, hown', hg⟩ := run_append_arg_grows (P := P) w t' ty e i z i.size i.bytes hu hi hz0 rfl rfl hzs hpos a0 xs.length xs.length us0 g6.len
                  (fun j u hu => by obtain ⟨ad', e', _, hc⟩ := g7 j u hu; injection e' with e'; subst e'; exact hc) ad ys.length c us hul
                  (fun j u hu => by obtain ⟨ad', e', hc⟩ := hcell j u hu; injection e' with e'; subst e'; exact hc) (by omega) hlen63 hb
                refine ⟨_, v', w', hR, hrun, fin (by rw [List.length_append]; exact hlen63) (g6.append hr) (by rw [List.length_append]; exact hown') hg ?_⟩
                refine ⟨fun h => (by cases h), fun h => ?_⟩
                subst h
                have := ownsRow_nil hown'
                omega
        · exact h.elim
    · exact h.elim
  · exact h.elim

end
end Go.Sy
