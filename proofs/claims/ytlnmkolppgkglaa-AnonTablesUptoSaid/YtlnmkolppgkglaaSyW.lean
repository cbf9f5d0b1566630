/- A range over a function: a round's contract out of its walk; the statement. -/
import Derived.Test.YtlnmkolppgkglaaSyV
set_option linter.all false
set_option maxHeartbeats 4000000
namespace Go.Sy
open Go.RowKit

section
variable {P : Program} {E : Ent} {a : Act} {w : World}

/-- The loop's variables set. -/
def setPs (env : List SV) (ps : List Tmp) (args : List SV) : List SV := (ps.zip args).foldl (fun env x => env.set x.1 x.2) env

theorem foldl_set_toList : ∀ (l : List (Tmp × Value)) (A : Array Value), (l.foldl (fun t x => t.setIfInBounds x.1 x.2) A).toList = l.foldl (fun t x => t.set x.1 x.2) A.toList
  | [], A => rfl
  | x :: l, A => by simp only [List.foldl_cons]; rw [foldl_set_toList l]; simp

theorem setPs_ok {χ : Nat → Color} {G : Gh} : ∀ (ps : List Tmp) {env args : List SV} {us vs : List Value}, RTL χ w G env us → RTL χ w G args vs → RTL χ w G (setPs env ps args) ((ps.zip vs).foldl (fun t x => t.set x.1 x.2) us)
  | [], env, args, us, vs, h, h' => h
  | p :: ps, env, [], us, vs, h, h' => by have : vs = [] := h'; subst this; exact h
  | p :: ps, env, s :: args, us, vs, h, ⟨v, r, e, h1, h2⟩ => by
    subst e
    exact setPs_ok ps (h.set p h1) h2

theorem setPs_tmps {χ : Nat → Color} {G : Gh} {ps : Array Tmp} {env args : List SV} {us vs : List Value} (h : RTL χ w G env us) (h' : RTL χ w G args vs) :
    RTL χ w G (setPs env ps.toList args) ((ps.zip vs.toArray).foldl (fun tmps (t, a) => tmps.setIfInBounds t a) us.toArray).toList := by
  rw [← Array.foldl_toList, Array.toList_zip, foldl_set_toList]
  exact setPs_ok _ h h'

/-- What is handed back at a round's end. -/
def roundFin (m : Nat) (Q : Res) (b : Bool) (st : List Ob) : Prop := must (decide (m ≤ st.length) && (st.take m).all (Ob.inn m)) (Q (vB b) (st.take m))
/-- A round's end. -/
def roundEnd (m : Nat) (Q : Res) (e : Exit) (σ : St) : Prop :=
  match σ.st with
  | .loop env ps a b s p :: r =>
    match e with
    | .normal => roundFin m Q true (.loop env ps a b .ready none :: r)
    | .ret => roundFin m Q false (.loop env ps a b .done (some .ret) :: r)
    | .exit id => roundFin m Q false (.loop env ps a b .done (some (.exit id)) :: r)
    | _ => False
  | _ => False
/-- The loop's variables have been set: the round begins. -/
def roundBegin (P : Program) (m : Nat) (body : Code) (Q : Res) (e : Exit) (σ : St) : Prop :=
  match e with
  | .normal => match σ.st with
    | .loop env ps a b .ready p :: r => Rest P { n := m, rnd := true } body ⟨σ.env, .loop env ps a b .busy p :: r⟩ (roundEnd m Q)
    | _ => False
  | _ => False

/-- The loop's record turns. -/
theorem Fits.loop {χ : Nat → Color} {G : Gh} {env : List SV} {lenv : List SV} {ps : Array Tmp} {asg body : Code} {s s' : LoopState} {p p' : Option Code} {r : List Ob} {a : Act} {w : World} (h : Fits E χ G ⟨env, .loop lenv ps asg body s p :: r⟩ a w) {l : Nat} (hl : G 0 = some (.fix l)) :
    ∃ (us : List Value) (fn : FuncId) (D : Nat), w.heap[l]? = some (.loop { state := s, pending := p, fn := fn, tmps := us.toArray, params := ps, assign := asg, body := body, defers := D }) ∧
      Fits E χ G ⟨env, .loop lenv ps asg body s' p' :: r⟩ a (w.putObj l (.loop { state := s', pending := p', fn := fn, tmps := us.toArray, params := ps, assign := asg, body := body, defers := D })) := by
  obtain ⟨l', us, fn, D, e1, e2, e3, e4⟩ := h.2.1 0 _ rfl
  rw [hl] at e1
  injection e1 with e1
  injection e1 with e1
  subst e1
  refine ⟨us, fn, D, e3, ?_⟩
  have hlt : l < w.heap.size := (Array.getElem?_eq_some_iff.1 e3).1
  have := h.set (o := 0) (χ' := χ) (G' := G) (w' := w.putObj l (.loop { state := s', pending := p', fn := fn, tmps := us.toArray, params := ps, assign := asg, body := body, defers := D })) (ob := .loop lenv ps asg body s' p') (by simp) rfl rfl rfl (by simp)
    (fun b hb hne => ⟨rfl, World.putObj_heap_other (by rintro rfl; exact hne e2)⟩) (fun _ _ => rfl) ⟨fun g hg => hg, fun n hd hh => ⟨n, hd, hh, Nat.le_refl _, fun _ => rfl⟩⟩
    ⟨l, us, fn, D, hl, e2, World.putObj_heap_same hlt, RTL.mono (w := w) (fun b hb hi => ⟨hi, World.putObj_heap_other (by rintro rfl; rw [e2] at hi; cases hi)⟩) (GGo.refl G) _ _ e4⟩
  simpa using this

/-- What was promised of a start, told of an end: the first m objects. -/
theorem fits_fin {χ0 χ : Nat → Color} {w0 w : World} {G0 G : Gh} {m : Nat} {rnd : Bool} {ro : Option Nat} {env : List SV} {st : List Ob} {a : Act} (h : Fits ⟨χ0, w0, G0, { n := m, rnd := rnd }, [], ro⟩ χ G ⟨env, st⟩ a w) (hm : m ≤ st.length) (hin : (st.take m).all (Ob.inn m) = true) :
    ∃ G', RSt χ w G' (st.take m) ∧ Fr χ0 w0 χ w ∧ m ≤ (st.take m).length ∧ GLe m G0 G' ∧ (∀ o, (st.take m).length ≤ o → G' o = none) := by
  obtain ⟨k1, k2, k3, k4, k5, k6, k7⟩ := h
  refine ⟨dn (fun _ => 0) m G, fun o ob ho => ?_, k3, by simp; omega, fun o ho => ?_, fun o ho => ?_⟩
  · have hlt : o < m := by have := (List.getElem?_eq_some_iff.1 ho).1; simp at this; omega
    have hob : ob.inn m = true := by
      rw [List.all_eq_true] at hin
      exact hin ob (List.mem_of_getElem? ho)
    rw [List.getElem?_take, if_pos hlt] at ho
    refine RO.dn hlt hob ?_
    have := k2 o ob ho
    cases ob with
    | cells t cs => simp only [Ob.up]; rw [upL_zero]; exact this
    | loop env ps asg body s pend => simp only [Ob.up]; rw [upL_zero]; exact this
    | _ => exact this
  · obtain ⟨q1, q2⟩ := k6 o ho
    refine ⟨fun g hg => by simp [dn, ho, q1 g hg], fun n hd hh => ?_⟩
    obtain ⟨m', h', e1, e2, e3⟩ := q2 n hd hh
    exact ⟨m', h', by simp [dn, ho, e1], e2, e3⟩
  · have : ¬ o < m := by simp at ho; omega
    unfold dn
    rw [if_neg this]

/-- **A round's contract out of its walk.** -/
theorem roundOk_of {args : List SV} {env : List SV} {ps : Array Tmp} {asg body : Code} {pend : Option Code} {rest : List Ob} {Q : Res} (hl : args.length = ps.size)
    (h : vc P { n := rest.length + 1, rnd := true } asg ⟨setPs env ps.toList args, .loop env ps asg body .ready pend :: rest⟩ (roundBegin P (rest.length + 1) body Q)) :
    RoundOk P args (.loop env ps asg body .ready pend :: rest) Q := by
  refine ⟨env, ps, asg, body, pend, rest, rfl, hl, ?_⟩
  intro χ G w vs hargs hst hG l us fn D e1 e2 e3 e4
  refine roundIn_of_wpIn (F := FW none) (FW_fn _ _) ?_
  have hrel : Rel ⟨χ, w, G, { n := rest.length + 1, rnd := true }, [], some l⟩ ⟨setPs env ps.toList args, .loop env ps asg body .ready pend :: rest⟩ { tmps := (ps.zip vs.toArray).foldl (fun tmps (t, a) => tmps.setIfInBounds t a) us.toArray, defers := [] } w :=
    ⟨χ, G, setPs_tmps e4 hargs, hst, ⟨rfl, rfl, rfl, Nat.le_refl _, fun b _ h => ⟨h, rfl⟩, fun b _ h => ⟨h, rfl⟩⟩, ⟨rfl, (fun h => (by cases h)), [], rfl, by simp, List.nodup_nil⟩, by simp, fun o _ => ⟨fun g h => h, fun n hd hh => ⟨n, hd, hh, Nat.le_refl _, fun _ => rfl⟩⟩, hG⟩
  refine wpIn_mono (vc_sound asg _ _ h _ _ _ rfl hrel) ?_
  rintro e a1 w1 ⟨σ1, hq, hr1⟩
  cases e with
  | normal =>
    unfold roundBegin at hq
    simp only at hq
    split at hq
    · rename_i env1 ps1 asg1 body1 p1 r1 hst1
      obtain ⟨χ1, G1, hf1⟩ := hr1
      have hf1 : Fits ⟨χ, w, G, { n := rest.length + 1, rnd := true }, [], some l⟩ χ1 G1 σ1 a1 w1 := hf1
      have hσ : σ1 = ⟨σ1.env, .loop env1 ps1 asg1 body1 .ready p1 :: r1⟩ := by rw [← hst1]
      rw [hσ] at hf1
      have hl1 : G1 0 = some (.fix l) := (hf1.2.2.2.2.2.1 0 (by simp)).1 l e1
      obtain ⟨us1, fn1, D1, b1, b2⟩ := hf1.loop (s' := .busy) (p' := p1) hl1
      refine ⟨_, run_beginRound b1 rfl, ?_⟩
      obtain ⟨hq⟩ := hq
      refine wpIn_mono (hq _ a1 _ rfl b2.rel) ?_
      rintro e2 a2 w2 ⟨σ2, hq2, hr2⟩
      unfold roundEnd at hq2
      split at hq2
      · rename_i env2 ps2 asg2 body2 s2 p2 r2 hst2
        obtain ⟨χ2, G2, hf2⟩ := hr2
        have hf2 : Fits ⟨χ, w, G, { n := rest.length + 1, rnd := true }, [], some l⟩ χ2 G2 σ2 a2 w2 := hf2
        have hσ2 : σ2 = ⟨σ2.env, .loop env2 ps2 asg2 body2 s2 p2 :: r2⟩ := by rw [← hst2]
        rw [hσ2] at hf2
        have hl2 : G2 0 = some (.fix l) := (hf2.2.2.2.2.2.1 0 (by simp)).1 l e1
        have fin : ∀ (jump : Option Code), roundFin (rest.length + 1) Q jump.isNone (.loop env2 ps2 asg2 body2 (if jump.isNone then .ready else .done) jump :: r2) →
            ∃ v w', (Instr.endRound l jump).run P w2 = .ok v w' ∧ ∃ r v' st' χ' G', Q r st' ∧ (Ending.returned v) = .returned v' ∧ RS χ' w' G' r v' ∧ RSt χ' w' G' st' ∧ Fr χ w χ' w' ∧ (Ob.loop env ps asg body .ready pend :: rest).length ≤ st'.length ∧ GLe (Ob.loop env ps asg body .ready pend :: rest).length G G' ∧ (∀ o, st'.length ≤ o → G' o = none) := by
          intro jump hfin
          obtain ⟨us2, fn2, D2, b3, b4⟩ := hf2.loop (s' := if jump.isNone then .ready else .done) (p' := jump) hl2
          unfold roundFin at hfin
          simp only [must_iff, Bool.and_eq_true, decide_eq_true_eq] at hfin
          obtain ⟨⟨h5, h6⟩, h7⟩ := hfin
          obtain ⟨G', c1, c2, c3, c4, c5⟩ := fits_fin b4 h5 h6
          exact ⟨_, _, run_endRound jump b3, vB jump.isNone, _, _, χ2, G', h7, rfl, rfl, c1, c2, c3, c4, c5⟩
        cases e2 with
        | normal => exact fin none hq2
        | ret => exact fin (some .ret) hq2
        | exit id => exact fin (some (.exit id)) hq2
        | _ => exact hq2.elim
      · exact hq2.elim
    · exact hq.elim
  | exit id => exact hq.elim
  | goto l => exact hq.elim
  | ret => exact hq.elim
  | panic ch => exact hq.elim
  | outgrown => exact hq.elim

/-- The mark of a range over a function. -/
theorem Fits.mark {χ : Nat → Color} {G : Gh} {σ : St} {a : Act} {w : World} (h : Fits E χ G σ a w) :
    Fits E (upF χ w.heap.size .mrk) G σ { a with defers := { target := .collected w.heap.size, args := #[] } :: a.defers } (w.alloc (.deferred (some []))) := by
  have h3 := h.2.2.1
  obtain ⟨_, _, pre0, p1, p2, _⟩ := h.2.2.2.1
  obtain ⟨k1, k2, k3, ⟨d1, d2, pre, d3, d4, d5⟩, k5, k6, k7⟩ := h.ext (χ' := upF χ w.heap.size .mrk) (w' := w.alloc (.deferred (some []))) rfl rfl rfl (by simp) (fun b hlt => ⟨upF_ne _ _ (by omega), Below.heap_alloc w _ b hlt⟩)
  have hpre : pre = pre0 := by
    rw [p1] at d3
    exact (List.append_cancel_right d3).symm
  subst hpre
  refine ⟨k1, k2, k3, ⟨d1, d2, { target := .collected w.heap.size, args := #[] } :: pre, by rw [List.cons_append, ← d3], fun d hd => ?_, List.nodup_cons.2 ⟨fun hm => ?_, d5⟩⟩, k5, k6, k7⟩
  · rcases List.mem_cons.1 hd with rfl | hd
    · exact ⟨_, rfl, upF_same _ _ _, h3.size, World.alloc_heap_new w _⟩
    · exact d4 d hd
  · obtain ⟨r, e1, _, _, e4⟩ := p2 _ hm
    have := (Array.getElem?_eq_some_iff.1 e4).1
    injection e1 with e1
    injection e1 with e1
    omega

/-- A loop's record is laid. -/
theorem Fits.newLoop {χ : Nat → Color} {G : Gh} {env lenv : List SV} {st : List Ob} {a : Act} {w : World} {us : List Value} (ps : Array Tmp) (asg body : Code) (fn : FuncId) (D : Nat) (h : Fits E χ G ⟨env, st⟩ a w) (hr : RTL χ w G lenv us) :
    Fits E (upF χ w.heap.size (.own st.length)) (upF G st.length (some (.fix w.heap.size))) ⟨env, st ++ [.loop lenv ps asg body .ready none]⟩ a (w.alloc (.loop { state := .ready, pending := none, fn := fn, tmps := us.toArray, params := ps, assign := asg, body := body, defers := D })) ∧
      GGo G (upF G st.length (some (.fix w.heap.size))) ∧ Keep χ w (upF χ w.heap.size (.own st.length)) (w.alloc (.loop { state := .ready, pending := none, fn := fn, tmps := us.toArray, params := ps, assign := asg, body := body, defers := D })) := by
  have hk : Keep χ w (upF χ w.heap.size (.own st.length)) (w.alloc (.loop { state := .ready, pending := none, fn := fn, tmps := us.toArray, params := ps, assign := asg, body := body, defers := D })) := fun b hlt hi =>
    ⟨by rw [upF_ne _ _ (by omega)]; exact hi, Below.heap_alloc w _ b hlt⟩
  have h7 := h.2.2.2.2.2.2 st.length (Nat.le_refl _)
  have hg : GGo G (upF G st.length (some (.fix w.heap.size))) := fun o' => by
    by_cases e : o' = st.length
    · subst e; rw [h7]; exact ⟨fun g hg => (by cases hg), fun n hd hh => (by cases hh)⟩
    · rw [upF_ne _ _ e]; exact ⟨fun g hg => hg, fun n hd hh => ⟨n, hd, hh, Nat.le_refl _, fun _ => rfl⟩⟩
  exact ⟨h.new rfl rfl rfl (by simp) (fun b hlt => ⟨upF_ne _ _ (by omega), Below.heap_alloc w _ b hlt⟩) (fun o' ho' => upF_ne _ _ ho')
    ⟨w.heap.size, us, fn, D, upF_same _ _ _, upF_same _ _ _, heap_alloc_new w _, RTL.mono hk hg _ _ hr⟩, hg, hk⟩

/-- Behind the function that was ranged over: the jump that a round has left. -/
def rangeK (Q : Exit → St → Prop) (env : List SV) (st : List Ob) (o : Nat) : Prop :=
  match st[o]? with
  | some (.loop _ _ _ _ s pend) => s ≠ .busy ∧ match pend with
    | none => Q .normal ⟨env, st.set o .gone⟩
    | some .ret => Q .ret ⟨env, st.set o .gone⟩
    | some (.exit id) => Q (.exit id) ⟨env, st.set o .gone⟩
    | _ => False
  | _ => False

/-- **A range over a function**: by the contract of the function that is ranged over, called with yield. -/
theorem hand_range {P : Program} {k : Kx} {g : Operand} {ps : Array Tmp} {asg body : Code} {env : List SV} {st : List Ob} {Q : Exit → St → Prop} {f : FuncId} {caps : List SV} (ids : List Nat) {args' : List SV} {obs : List Ob} {Qc : Res}
    (h : CallOk P f args' obs Qc) (hfn : isFn P f) (hg : St.ev ⟨env, st⟩ g = .clo f caps) (hrnd : k.rnd = false)
    (hn : decide ids.Nodup = true) (hi : (ids.all fun i => decide (i < st.length + 1)) = true)
    (ha : .yld st.length :: caps = SV.rnL (fun j => ids.getD j 0) args') (hb : SV.inL ids.length args' = true)
    (ho : ids.map (fun i => (st ++ [Ob.loop env ps asg body .ready none]).getD i .gone) = obs.map (Ob.rn fun j => ids.getD j 0)) (hob : obs.all (Ob.inn ids.length) = true)
    (kont : ∀ r st', Qc r st' → rangeK Q env (backSt ids (st ++ [Ob.loop env ps asg body .ready none]) st') st.length) : Hand P k (.rangeFunc g ps asg body) ⟨env, st⟩ Q := by
  refine ⟨fun E a w hE hr => ?_⟩
  obtain ⟨χ, G, hf⟩ := hr
  have hf : Fits E χ G ⟨env, st⟩ a w := hf
  have hro : E.ro = none := hf.2.2.2.1.ro (by rw [hE]; exact hrnd)
  refine wpIn_rangeFunc fun fn _ => ?_
  have hv := RS_ev (σ := ⟨env, st⟩) hf.1 g
  rw [hg] at hv
  obtain ⟨us, hv, hcaps⟩ := hv
  have hm := hf.mark
  have hk1 : Keep χ w (upF χ w.heap.size .mrk) (w.alloc (.deferred (some []))) := fun b hlt hi => ⟨by rw [upF_ne _ _ (by omega)]; exact hi, Below.heap_alloc w _ b hlt⟩
  obtain ⟨hl, hg1, hk2⟩ := hm.newLoop (us := a.tmps.toList) ps asg body fn w.heap.size hm.1
  have hsz : (w.alloc (.deferred (some []))).heap.size = w.heap.size + 1 := by simp
  rw [hsz] at hl hg1 hk2
  refine ⟨w.heap.size + 1, [{ target := .collected w.heap.size, args := #[] }], _, { target := .fn (.func f) us.toArray, args := #[.func (.yield (w.heap.size + 1)) #[] #[]] }, _, f, #[.func (.yield (w.heap.size + 1)) #[] #[]] ++ us.toArray, _, by
    rw [show (FW E.ro).round = none from hro]
    exact run_enterLoop_outer fn a.tmps ps asg body, by
    have hc : ∀ v, a.eval (.const v) = v := fun _ => rfl
    simp [resolve, rangeCall, hv, Deferred.ofValue, hc]
    rfl, fun _ _ => FW_fn _ _, by
    show (callFunc f (#[.func (.yield (w.heap.size + 1)) #[] #[]] ++ us.toArray)).run P _ = _
    exact callFunc_run hfn, fun e => (by cases e), ?_⟩
  refine FW_calls.2 ?_
  have hyl : RS (upF (upF χ w.heap.size .mrk) (w.heap.size + 1) (.own st.length)) ((w.alloc (.deferred (some []))).alloc (.loop { state := .ready, pending := none, fn := fn, tmps := a.tmps.toList.toArray, params := ps, assign := asg, body := body, defers := w.heap.size })) (upF G st.length (some (.fix (w.heap.size + 1)))) (.yld st.length) (.func (.yield (w.heap.size + 1)) #[] #[]) :=
    ⟨_, upF_same _ _ _, rfl⟩
  have hargs : RTL (upF (upF χ w.heap.size .mrk) (w.heap.size + 1) (.own st.length)) ((w.alloc (.deferred (some []))).alloc (.loop { state := .ready, pending := none, fn := fn, tmps := a.tmps.toList.toArray, params := ps, assign := asg, body := body, defers := w.heap.size })) (upF G st.length (some (.fix (w.heap.size + 1)))) (.yld st.length :: caps) (.func (.yield (w.heap.size + 1)) #[] #[] :: us) :=
    ⟨_, us, rfl, hyl, RTL.mono hk2 hg1 _ _ (RTL.mono hk1 (GGo.refl G) _ _ hcaps)⟩
  obtain ⟨χc, Gc, g1, g2, g3, _, g4⟩ := obj_step hl hargs (of_decide_eq_true hn) (fun i h' => by have := of_decide_eq_true (List.all_eq_true.1 hi i h'); simpa using this) ha hb ho hob
  have hcall := (h χc Gc _ _ g1 g2 g3).calls hfn
  have e0 : (Value.func (.yield (w.heap.size + 1)) #[] #[] :: us).toArray = #[.func (.yield (w.heap.size + 1)) #[] #[]] ++ us.toArray := by simp
  rw [e0] at hcall
  refine Calls.mono (R := fun e w' => ∃ r v st' χ' G', Qc r st' ∧ e = .returned v ∧ RS χ' w' G' r v ∧ RSt χ' w' G' st' ∧ Fr χc _ χ' w' ∧ obs.length ≤ st'.length ∧ GLe obs.length Gc G' ∧ (∀ o, st'.length ≤ o → G' o = none)) hcall ?_
  rintro e w' ⟨r, v, st', χ1, G1, hQ, rfl, hr, hst1, hfr, hlen, hgle, hnone⟩
  obtain ⟨χ2, G2, q1, q2, q3⟩ := g4 r v st' χ1 G1 w' hr hst1 hfr hlen hgle hnone
  have hK := kont r st' hQ
  unfold rangeK at hK
  split at hK
  · rename_i lenv ps2 asg2 body2 s pend hob2
    obtain ⟨hs, hK⟩ := hK
    obtain ⟨l2, us2, fn2, D2, e1, e2, e3, e4⟩ := q1.2.1 _ _ hob2
    have hG2 : G2 st.length = some (.fix (w.heap.size + 1)) := (q3 st.length).1 _ (upF_same _ _ _)
    rw [hG2] at e1
    injection e1 with e1
    injection e1 with e1
    subst e1
    refine ⟨pend, _, run_endLoop e3 hs, ?_⟩
    have hlt2 := (List.getElem?_eq_some_iff.1 hob2).1
    have hgone : Fits E χ2 G2 ⟨env, (backSt ids (st ++ [Ob.loop env ps asg body .ready none]) st').set st.length .gone⟩ { a with defers := { target := .collected w.heap.size, args := #[] } :: a.defers }
        (w'.putObj (w.heap.size + 1) (.loop { state := .exhausted, pending := pend, fn := fn2, tmps := us2.toArray, params := ps2, assign := asg2, body := body2, defers := D2 })) :=
      q1.set hlt2 rfl rfl rfl (by simp) (fun b hb hne => ⟨rfl, World.putObj_heap_other (by rintro rfl; exact hne e2)⟩) (fun _ _ => rfl) ⟨fun g hg => hg, fun n hd hh => ⟨n, hd, hh, Nat.le_refl _, fun _ => rfl⟩⟩ trivial
    cases pend with
    | none => exact ⟨_, hK, hgone.rel⟩
    | some c =>
      cases c with
      | ret => exact wpIn_ret ⟨_, hK, hgone.rel⟩
      | exit id => exact wpIn_exit ⟨_, hK, hgone.rel⟩
      | _ => exact hK.elim
  · exact hK.elim
end
end Go.Sy
