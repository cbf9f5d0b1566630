/- Every operation of the walk is what the model does; regions; code. -/
import Derived.Test.YtlnmkolppgkglaaSyL
set_option linter.all false
set_option maxHeartbeats 4000000
namespace Go.Sy
open Go.RowKit

section
variable {P : Program} {E : Ent} {env : List SV} {st : List Ob} {a : Act} {w : World}

/-- What the walk asks behind an operation. -/
def After (E : Ent) (env : List SV) (o : Oper) (a : Act) (R : Res) (a' : Act) (w' : World) : Prop :=
  ∃ s v st', R s st' ∧ a' = a.put o.dst v ∧ Rel2 E ⟨env, st'⟩ a w' s v

theorem after_value {o : Oper} {R : Res} {Q : Exit → Act → World → Prop} {s : SV} {v : Value} {st' : List Ob} {w' : World} (hrun : (execOp a.eval o).run P w = .ok (.value v) w') (hR : R s st') (hr : Rel2 E ⟨env, st'⟩ a w' s v) :
    o.wp P a w (After E env o a R) Q := wp_value hrun ⟨s, v, st', hR, rfl, hr⟩

theorem argsOf_ok {χ : Nat → Color} {G : Gh} {ρ : Operand → SV} (hρ : ∀ x, RS χ w G (ρ x) (a.eval x)) (c : Call) (h : c.args.size = c.argTypes.size) : RTL χ w G (argsOf P ρ c) (c.args.map a.eval).toList := by
  unfold argsOf
  rw [Array.toList_map]
  have key : ∀ (l : List Operand) (l' : List TypeId), l.length = l'.length → RTL χ w G ((l.zip l').map fun (x, t) => nilAt P t (ρ x)) (l.map a.eval) := by
    intro l
    induction l with
    | nil => intro l' h; cases l' <;> simp [RTL]
    | cons x l ih =>
      intro l' h
      cases l' with
      | nil => simp at h
      | cons t l' => exact ⟨_, _, rfl, RS_nilAt (hρ x), ih l' (by simpa using h)⟩
  exact key _ _ (by simpa using h)

theorem callFunc_run {g : FuncId} {args : Array Value} (h : isFn P g) : (callFunc g args).run P w = .ok (.enter g args) w := by
  obtain ⟨fn, h1, h2, h3⟩ := h
  have hb : fn.body ≠ none := by intro e; rw [e] at h2; cases h2
  have h3' : ¬ fn.name = "runtime.NumGoroutine" := by simpa using h3
  simp [callFunc, h1, hb, h3']

theorem RunsTo.calls {f : FuncId} {args : Array Value} {R : Ending → World → Prop} (h : RunsTo P f args w R) (hfn : isFn P f) : Calls P f args w R := by
  rcases h with ⟨_, h⟩ | ⟨v, w', h1, _⟩
  · exact h
  · rw [callFunc_run hfn] at h1
    cases h1

/-- Is this a call of a loop's yield? -/
def isYield (env : List SV) (st : List Ob) (o : Oper) : Prop := ∃ c f n, o.op = .call c ∧ c.callee = .value f ∧ St.ev ⟨env, st⟩ f = .yld n

theorem op_sound' {ops : Array Oper} {o : Oper} {q : Option (SV → Prop)} {R : Res} {Q : Exit → Act → World → Prop} (h : vcOp P ops o (St.ev ⟨env, st⟩) st q R) (hr : Rel E ⟨env, st⟩ a w) (hny : ¬ isYield env st o) :
    o.wp P a w (After E env o a R) Q := by
  unfold isYield at hny
  obtain ⟨χ, G, hf⟩ := hr
  have hf : Fits E χ G ⟨env, st⟩ a w := hf
  have hρ : ∀ x, RS χ w G (St.ev ⟨env, st⟩ x) (a.eval x) := fun x => RS_ev hf.1 x
  have hρ' : ∀ {χ : Nat → Color} {st' : List Ob}, Fits E χ G ⟨env, st'⟩ a w → ∀ x, RS χ w G (St.ev ⟨env, st⟩ x) (a.eval x) := fun hf x => RS_ev (σ := ⟨env, st⟩) hf.1 x
  generalize hρe : St.ev ⟨env, st⟩ = ρ at *
  unfold vcOp at h
  split at h
  · rename_i x ho
    exact after_value (by unfold execOp; rw [ho]; rfl) h (hf.two (RS_nilAt (hρ x)))
  · rename_i x ho
    exact after_value (by unfold execOp; rw [ho]; rfl) h (hf.two (RS_nilAt (hρ x)))
  · -- pick
    rename_i c x y ho
    have hc := hρ c
    split at h
    · rename_i t he
      rw [he] at hc
      simp only [RS_val] at hc
      cases t with
      | true => exact after_value (v := a.eval x) (w' := w) (by unfold execOp; rw [ho]; simp [hc, asBool]) h (hf.two (hρ x))
      | false => exact after_value (v := a.eval y) (w' := w) (by unfold execOp; rw [ho]; simp [hc, asBool]) h (hf.two (hρ y))
    · exact h.elim
  · -- binOp
    rename_i op t x y yt ho
    obtain ⟨s, v, hR, hrun, hs⟩ := bin_run (ox := x) (oy := y) (hρ x) (hρ y) h
    refine after_value (v := v) (w' := w) ?_ hR (hf.two hs)
    unfold execOp
    rw [ho]
    simp only [Sem.run_bind] at hrun ⊢
    rw [hrun]
    rfl
  · -- unOp
    rename_i op t x ho
    obtain ⟨s, v, hR, hrun, hs⟩ := un_run (P := P) (hρ x) h
    exact after_value (v := v) (w' := w) (by unfold execOp; rw [ho]; simp [hrun]) hR (hf.two hs)
  · -- convert
    rename_i s d x ho
    by_cases hb : ∃ b e, ρ x = vS b ∧ P.underlying d = some (.slice e)
    · obtain ⟨b, e, hx, hd⟩ := hb
      have hv := hρ x
      rw [hx] at h hv
      simp only [RS_val] at hv
      obtain ⟨s', v, st', w', hR, hrun, hr⟩ := convBytes_ok (R := R) hf hd h
      exact after_value (v := v) (w' := w') (by unfold execOp; rw [ho]; simp [hv, hrun]) hR hr
    · obtain ⟨s', v, hR, hrun, hs⟩ := conv_run (hρ x) hf.2.1 (fun b e hh => hb ⟨b, e, hh⟩) h
      exact after_value (v := v) (w' := w) (by unfold execOp; rw [ho]; simp [hrun]) hR (hf.two hs)
  · -- extract
    rename_i t i ho
    have ht := hρ t
    split at h
    · rename_i cs he
      rw [he] at ht
      obtain ⟨us, hv, hl⟩ := ht
      have hl1 := hl.length
      simp only [must_iff, decide_eq_true_eq] at h
      have := hl.get i
      refine after_value (v := us.getD i undef) (w' := w) ?_ h.2 (hf.two this)
      unfold execOp
      rw [ho]
      have hlt : i < us.length := by omega
      simp [hv, Instr.extract, hlt, List.getD_eq_getElem?_getD]
    · exact h.elim
  · -- nilCheck
    rename_i x ho
    have hx := hρ x
    split at h
    · rename_i o' k he
      rw [he] at hx
      have hx' := hx
      obtain ⟨g, hG, hv⟩ := hx
      exact after_value (v := a.eval x) (w' := w) (by unfold execOp; rw [ho]; simp [hv]) h (hf.two hx')
    · exact h.elim
  · -- indexAddr
    rename_i t x i ho
    obtain ⟨s, v, hR, hrun, hs⟩ := indexAddr_run (hρ x) (hρ i) hf.2.1 h
    exact after_value (v := v) (w' := w) (by unfold execOp; rw [ho]; simp [hrun]) hR (hf.two hs)
  · -- index
    rename_i t x i ho
    obtain ⟨s, v, hR, hrun, hs⟩ := index_run (hρ x) (hρ i) h
    exact after_value (v := v) (w' := w) (by unfold execOp; rw [ho]; simp [hrun]) hR (hf.two hs)
  · -- load
    rename_i t x ho
    obtain ⟨s, v, hR, hrun, hs⟩ := load_run (hρ x) hf.2.1 h
    exact after_value (v := v) (w' := w) (by unfold execOp; rw [ho]; simp [hrun]) hR (hf.two hs)
  · -- box
    rename_i t x ho
    simp only [must_iff] at h
    obtain ⟨s, v, st', w', hR, hrun, hr⟩ := box_ok (P := P) hf (RS_nilAt (hρ x)) h.2
    exact after_value (v := v) (w' := w') (by unfold execOp; rw [ho]; simp [hrun]) hR hr
  · -- alloc
    rename_i t ho
    simp only [must_iff] at h
    obtain ⟨s, v, st', w', hR, hrun, hr⟩ := alloc_ok hf h.2
    exact after_value (v := v) (w' := w') (by unfold execOp; rw [ho]; simp [hrun]) hR hr
  · -- build
    rename_i t parts ho
    obtain ⟨s, v, hR, hrun, hs⟩ := build_ok hρ h
    exact after_value (v := v) (w' := w) (by unfold execOp; rw [ho]; simp [hrun]) hR (hf.two hs)
  · -- buildSlice
    rename_i t len parts ho
    obtain ⟨s, v, st', w', hR, hrun, hr⟩ := buildSlice_ok hρ' hf h
    exact after_value (v := v) (w' := w') (by unfold execOp; rw [ho]; simp [hrun]) hR hr
  · -- slice
    rename_i t x lo hi mx ho
    simp only [must_iff, Option.isNone_iff_eq_none] at h
    obtain ⟨hm, h⟩ := h
    subst hm
    obtain ⟨s, v, st', hR, hrun, hr⟩ := slice_ok hρ' hf (hρ x) h
    exact after_value (v := v) (w' := w) (by unfold execOp; rw [ho]; simp [hrun]) hR hr
  · -- makeSlice
    rename_i t l c ho
    simp only [must_iff] at h
    obtain ⟨s, v, st', w', hR, hrun, hr⟩ := makeSlice_ok hf (hρ l) (hρ c) h.2
    exact after_value (v := v) (w' := w') (by unfold execOp; rw [ho]; simp [hrun]) hR hr
  · -- store
    rename_i t x v ho
    simp only [must_iff] at h
    obtain ⟨s, st', w', hR, hrun, hr⟩ := store_ok hf (hρ x) (RS_nilAt (hρ v)) h.2
    exact wp_skip' (w' := w') (by unfold execOp; rw [ho]; simp [hrun]) ⟨s, undef, st', hR, rfl, hr⟩
  · -- fieldAddr
    rename_i t x f ho
    obtain ⟨s, v, hR, hrun, hs⟩ := fieldAddr_run (hρ x) h
    exact after_value (v := v) (w' := w) (by unfold execOp; rw [ho]; simp [hrun]) hR (hf.two hs)
  · -- field
    rename_i t x f ho
    obtain ⟨s, v, hR, hrun, hs⟩ := field_run (hρ x) h
    exact after_value (v := v) (w' := w) (by unfold execOp; rw [ho]; simp [hrun]) hR (hf.two hs)
  · -- call
    rename_i c ho
    split at h
    · -- len
      rename_i hc
      split at h
      · rename_i x t h1 h2
        have h1' : c.args = #[x] := by apply Array.toList_inj.1; simpa using h1
        have h2' : c.argTypes = #[t] := by apply Array.toList_inj.1; simpa using h2
        obtain ⟨s, v, hR, hrun, hs⟩ := len_run (ty := o.type) (hρ x) hf.2.1 h
        refine after_value (v := v) (w' := w) ?_ hR (hf.two hs)
        unfold execOp
        rw [ho]
        simp [resolve, hc, invoke, builtin, h1', h2', hrun]
      · exact h.elim
    · -- append
      rename_i hc
      split at h
      · rename_i s x t t' h1 h2
        have h1' : c.args = #[s, x] := by apply Array.toList_inj.1; simpa using h1
        have h2' : c.argTypes = #[t, t'] := by apply Array.toList_inj.1; simpa using h2
        split at h
        · obtain ⟨r, v, st', w', hR, hrun, hr⟩ := append_ok (ty := o.type) hf (hρ s) (hρ x) h
          refine after_value (v := v) (w' := w') ?_ hR hr
          unfold execOp
          rw [ho]
          simp [resolve, hc, invoke, builtin, h1', h2', hrun]
        · obtain ⟨r, v, w', hR, hrun, hr⟩ := appendQ_ok (ty := o.type) hf (hρ s) (hρ x) h
          refine after_value (v := v) (w' := w') ?_ hR hr
          unfold execOp
          rw [ho]
          simp [resolve, hc, invoke, builtin, h1', h2', hrun]
      · exact h.elim
    · -- copy
      rename_i hc
      simp only [must_iff] at h
      obtain ⟨_, h⟩ := h
      split at h
      · rename_i d x t t' h1 h2
        have h1' : c.args = #[d, x] := by apply Array.toList_inj.1; simpa using h1
        have h2' : c.argTypes = #[t, t'] := by apply Array.toList_inj.1; simpa using h2
        obtain ⟨r, v, st', w', hR, hrun, hr⟩ := copy_ok (t' := t') (ty := o.type) hf (hρ d) (hρ x) h
        refine after_value (v := v) (w' := w') ?_ hR hr
        unfold execOp
        rw [ho]
        simp [resolve, hc, invoke, builtin, h1', h2', hrun]
      · exact h.elim
    · -- clear
      rename_i hc
      simp only [must_iff] at h
      obtain ⟨_, h⟩ := h
      split at h
      · rename_i x t h1 h2
        have h1' : c.args = #[x] := by apply Array.toList_inj.1; simpa using h1
        have h2' : c.argTypes = #[t] := by apply Array.toList_inj.1; simpa using h2
        obtain ⟨r, v, st', w', hR, hrun, hr⟩ := clear_ok (ty := o.type) hf (hρ x) h
        refine after_value (v := v) (w' := w') ?_ hR hr
        unfold execOp
        rw [ho]
        simp [resolve, hc, invoke, builtin, h1', h2', hrun]
      · exact h.elim
    · -- min
      rename_i hc
      split at h
      · rename_i x y h1
        have h1' : c.args = #[x, y] := by apply Array.toList_inj.1; simpa using h1
        obtain ⟨s, v, hR, hrun, hs⟩ := min_run (P := P) (ts := c.argTypes) (t := o.type) (hρ x) (hρ y) h
        refine after_value (v := v) (w' := w) ?_ hR (hf.two hs)
        unfold execOp
        rw [ho]
        simp [resolve, hc, invoke, builtin, h1', hrun]
      · exact h.elim
    · -- max
      rename_i hc
      split at h
      · rename_i x y h1
        have h1' : c.args = #[x, y] := by apply Array.toList_inj.1; simpa using h1
        obtain ⟨s, v, hR, hrun, hs⟩ := max_run (P := P) (ts := c.argTypes) (t := o.type) (hρ x) (hρ y) h
        refine after_value (v := v) (w' := w) ?_ hR (hf.two hs)
        unfold execOp
        rw [ho]
        simp [resolve, hc, invoke, builtin, h1', hrun]
      · exact h.elim
    · -- a function
      rename_i f hc
      simp only [must_iff, beq_iff_eq] at h
      obtain ⟨hsz, h⟩ := h
      have hfv := hρ f
      split at h
      · rename_i g he
        rw [he] at hfv
        simp only [RS_val] at hfv
        rcases callIn_ok hf (argsOf_ok hρ c hsz) h with ⟨hfn, hcall⟩ | ⟨vv, ww, hrun0, r, v, st', hR, he, hr⟩
        case' inr =>
          injection he with he
          subst he
          refine after_value (v := vv) (w' := ww) ?_ hR hr
          unfold execOp
          rw [ho]
          simp only [resolve, hc, hfv, Sem.run_bind]
          have e0 : (c.args.map a.eval) = (c.args.map a.eval).toList.toArray := (Array.toArray_toList).symm
          rw [← e0] at hrun0
          simp [Deferred.ofValue, invoke, hrun0]
        have hrun : (execOp a.eval o).run P w = .ok (.enter g (c.args.map a.eval)) w := by
          unfold execOp
          rw [ho]
          simp only [resolve, hc, hfv, Sem.run_bind]
          simp [Deferred.ofValue, invoke, callFunc_run hfn]
        unfold Oper.wp
        rw [hrun]
        simp only [Oper.upon]
        have e0 : (c.args.map a.eval) = (c.args.map a.eval).toList.toArray := (Array.toArray_toList).symm
        rw [e0]
        refine hcall.mono ?_
        rintro e w' ⟨r, v, st', hR, rfl, hr⟩
        exact ⟨r, v, st', hR, rfl, hr⟩
      · rename_i g caps he
        rw [he] at hfv
        obtain ⟨us, hv, hl⟩ := hfv
        rcases callIn_ok hf ((argsOf_ok hρ c hsz).append hl) h with ⟨hfn, hcall⟩ | ⟨vv, ww, hrun0, r, v, st', hR, he, hr⟩
        case' inr =>
          injection he with he
          subst he
          refine after_value (v := vv) (w' := ww) ?_ hR hr
          unfold execOp
          rw [ho]
          have e0 : (c.args.map a.eval ++ us.toArray) = ((c.args.map a.eval).toList ++ us).toArray := by simp
          rw [← e0] at hrun0
          simp [resolve, hc, hv, Deferred.ofValue, invoke, hrun0]
        have hrun : (execOp a.eval o).run P w = .ok (.enter g (c.args.map a.eval ++ us.toArray)) w := by
          unfold execOp
          rw [ho]
          simp [resolve, hc, hv, Deferred.ofValue, invoke, callFunc_run hfn]
        unfold Oper.wp
        rw [hrun]
        simp only [Oper.upon]
        have e0 : (c.args.map a.eval ++ us.toArray) = ((c.args.map a.eval).toList ++ us).toArray := by simp
        rw [e0]
        refine hcall.mono ?_
        rintro e w' ⟨r, v, st', hR, rfl, hr⟩
        exact ⟨r, v, st', hR, rfl, hr⟩
      · rename_i g first he
        rw [he] at hfv
        obtain ⟨us, hv, hl⟩ := hfv
        rcases callIn_ok hf (hl.append (argsOf_ok hρ c hsz)) h with ⟨hfn, hcall⟩ | ⟨vv, ww, hrun0, r, v, st', hR, he, hr⟩
        case' inr =>
          injection he with he
          subst he
          refine after_value (v := vv) (w' := ww) ?_ hR hr
          unfold execOp
          rw [ho]
          have e0 : (us.toArray ++ c.args.map a.eval) = (us ++ (c.args.map a.eval).toList).toArray := by simp
          rw [← e0] at hrun0
          simp [resolve, hc, hv, Deferred.ofValue, invoke, hrun0]
        have hrun : (execOp a.eval o).run P w = .ok (.enter g (us.toArray ++ c.args.map a.eval)) w := by
          unfold execOp
          rw [ho]
          simp [resolve, hc, hv, Deferred.ofValue, invoke, callFunc_run hfn]
        unfold Oper.wp
        rw [hrun]
        simp only [Oper.upon]
        have e0 : (us.toArray ++ c.args.map a.eval) = (us ++ (c.args.map a.eval).toList).toArray := by simp
        rw [e0]
        refine hcall.mono ?_
        rintro e w' ⟨r, v, st', hR, rfl, hr⟩
        exact ⟨r, v, st', hR, rfl, hr⟩
      · rename_i n he
        exact absurd ⟨c, f, n, ho, hc, he⟩ hny
      · exact h.elim
    · exact h.elim
  · -- makeFunc
    rename_i fn first caps ho
    have key : ∀ l : List Operand, RTL χ w G (l.map ρ) (l.map a.eval) := by
      intro l
      induction l with
      | nil => rfl
      | cons x l ih => exact ⟨_, _, rfl, hρ x, ih⟩
    split at h
    · rename_i g
      split at h
      · rename_i h1
        have hfirst : first = #[] := by apply Array.toList_inj.1; simpa using h1
        subst hfirst
        exact after_value (v := .func (.func g) #[] (caps.map a.eval)) (w' := w) (by unfold execOp; rw [ho]; simp [Instr.makeFunc]) h (hf.two ⟨caps.toList.map a.eval, by rw [← Array.toList_map, Array.toArray_toList], key _⟩)
      · rename_i x r h1
        simp only [must_iff, beq_iff_eq] at h
        have hcaps : caps = #[] := by simpa using h.1
        subst hcaps
        exact after_value (v := .func (.func g) (first.map a.eval) #[]) (w' := w) (by unfold execOp; rw [ho]; simp [Instr.makeFunc]) h.2 (hf.two ⟨(x :: r).map a.eval, by rw [← h1, ← Array.toList_map, Array.toArray_toList], key _⟩)
    · exact h.elim
  · exact h.elim

theorem upon_mono {o : Oper} {next next' : Act → World → Prop} {Q : Exit → Act → World → Prop} {r : Result Next} (h : ∀ a w, next a w → next' a w) (hu : o.upon P a next Q r) : o.upon P a next' Q r := by
  cases r with
  | ok n w' =>
    cases n with
    | value v => exact h _ _ hu
    | skip => exact h _ _ hu
    | defer d => exact h _ _ hu
    | enter f args => exact Calls.mono hu fun e w'' hh => (by cases e <;> first | exact h _ _ hh | exact hh)
    | row r args => exact Rows.mono hu fun v w'' hh => h _ _ hh
    | _ => exact hu
  | halt x w' =>
    cases x <;> exact hu

theorem FW_fn (ro : Option Nat) (f : FuncId) : (FW ro).fn f := trivial
theorem FW_calls {ro : Option Nat} {n : Nat} {f : FuncId} {args : Array Value} {R : Ending → World → Prop} : CallsIn (FW ro) n P f args w R ↔ Calls P f args w R := callsIn_wide

/-- What is carried out outside a round is carried out in one. -/
theorem wpIn_of_wp {o : Oper} {K : Act → World → Prop} {Q : Exit → Act → World → Prop} {ro : Option Nat} (hnd : ∀ c, o.op ≠ .defer c) (h : o.wp P a w K Q) : o.wpIn (FW ro) 0 P a w K Q := by
  refine ⟨fun f _ => FW_fn ro f, ?_⟩
  rw [Oper.semAt_eq _ _ _ hnd]
  unfold Oper.wp at h
  generalize (execOp a.eval o).run P w = r at h
  cases r with
  | ok n w' =>
    cases n with
    | value v => exact h
    | skip => exact h
    | defer d => exact h
    | enter f args => exact ⟨fun e => (by cases e), FW_calls.2 h⟩
    | row r args => exact ⟨fun e => (by cases e), fun c cs _ => (let ⟨v, w'', h1, h2⟩ := h c cs; ⟨v, w'', h1, stepsIn_wide.2 h2⟩)⟩
    | _ => exact h.elim
  | halt x w' => cases x <;> first | exact h | exact h.elim

theorem no_defer {ops : Array Oper} {o : Oper} {ρ : Operand → SV} {st : List Ob} {q : Option (SV → Prop)} {R : Res} (h : vcOp P ops o ρ st q R) : ∀ c, o.op ≠ .defer c := by
  intro c e
  unfold vcOp at h
  rw [e] at h
  exact h

/-- A round, met where the iterator calls yield. -/
theorem yield_sound {o : Oper} {c : Call} {f : Operand} {n : Nat} {R : Res} {Q : Exit → Act → World → Prop} (ho : o.op = .call c) (hc : c.callee = .value f) (he : St.ev ⟨env, st⟩ f = .yld n) (hsz : c.args.size = c.argTypes.size)
    (h : YieldIn P n (argsOf P (St.ev ⟨env, st⟩) c) st R) (hr : Rel E ⟨env, st⟩ a w) : o.wpIn (FW E.ro) 0 P a w (After E env o a R) Q := by
  obtain ⟨χ, G, hf⟩ := hr
  have hf : Fits E χ G ⟨env, st⟩ a w := hf
  have hρ : ∀ x, RS χ w G (St.ev ⟨env, st⟩ x) (a.eval x) := fun x => RS_ev hf.1 x
  refine ⟨fun f _ => FW_fn _ f, ?_⟩
  rw [Oper.semAt_eq _ _ _ (by rw [ho]; intro c e; cases e)]
  obtain ⟨ids, args', obs, Q', hn, hi, h0, ha, hb, hoo, hob, hrd, k⟩ := h
  obtain ⟨χc, Gc, g1, g2, g3, g5, g4⟩ := obj_step hf (argsOf_ok hρ c hsz) hn hi ha hb hoo hob
  have hol : obs.length = ids.length := by simpa using (congrArg List.length hoo).symm
  obtain ⟨lenv, ps, asg, body, pend, rest, rfl, hlen, hround⟩ := hrd
  have hl0 := g2 0 _ rfl
  obtain ⟨l, us, fn, D, e1, e2, e3, e4⟩ := hl0
  have hidl : 0 < ids.length := by rw [← hol]; simp
  have hG0 := g5 0 hidl
  have hn0 : ids.getD 0 0 = n := by
    cases ids with
    | nil => simp at hidl
    | cons x r => simpa using h0
  rw [hn0] at hG0
  have hfv := hρ f
  rw [he] at hfv
  obtain ⟨l', q1, q2⟩ := hfv
  rw [hG0, q1] at e1
  injection e1 with e1
  injection e1 with e1
  subst e1
  have hargl : args'.length = (argsOf P (St.ev ⟨env, st⟩) c).length := by
    rw [ha]
    have : ∀ (m : Nat → Nat) (l : List SV), (SV.rnL m l).length = l.length := by
      intro m l
      induction l with
      | nil => rfl
      | cons x l ih => simp [SV.rnL, ih]
    rw [this]
  have hasz : (c.args.map a.eval).size = ps.size := by
    rw [← hlen, hargl]
    simp [argsOf, hsz]
  have hrun : (execOp a.eval o).run P w = .ok (.round l' fn ((ps.zip (c.args.map a.eval)).foldl (fun tmps (t, a) => tmps.setIfInBounds t a) us.toArray) asg body) w := by
    unfold execOp
    rw [ho]
    simp only [resolve, hc, q2, Sem.run_bind, Deferred.ofValue, Sem.run_pure, Result.andThen_ok, invoke]
    have := run_yield (P := P) (args := c.args.map a.eval) e3 hasz
    simpa using this
  rw [hrun]
  refine ⟨fun e => (by cases e), ?_⟩
  have hR := hround χc Gc w _ g1 g2 g3 l' us fn D (by rw [hG0, q1]) e2 e3 e4
  rw [Array.toArray_toList] at hR
  have hR : RoundIn (FW E.ro) 0 P l' fn ((ps.zip (c.args.map a.eval)).foldl (fun tmps (t, a) => tmps.setIfInBounds t a) us.toArray) asg body w _ := hR
  refine hR.mono ?_
  rintro e w' ⟨r, v, st', χ1, G1, hQ, rfl, hr, hst1, hfr, hlen', hgle, hnone⟩
  obtain ⟨χ', G', q1', q2', _⟩ := g4 r v st' χ1 G1 w' hr hst1 hfr hlen' hgle hnone
  exact ⟨_, v, _, k r st' hQ, rfl, q1'.two q2'⟩

theorem op_sound {ops : Array Oper} {o : Oper} {q : Option (SV → Prop)} {R : Res} {Q : Exit → Act → World → Prop} (h : vcOp P ops o (St.ev ⟨env, st⟩) st q R) (hr : Rel E ⟨env, st⟩ a w) :
    o.wpIn (FW E.ro) 0 P a w (After E env o a R) Q := by
  by_cases hy : isYield env st o
  · obtain ⟨c, f, n, ho, hc, he⟩ := hy
    unfold vcOp at h
    rw [ho] at h
    simp only [hc, he, must_iff, beq_iff_eq] at h
    exact yield_sound ho hc he h.1 h.2.2 hr
  · exact wpIn_of_wp (no_defer h) (op_sound' h hr hy)

theorem yielded_of {ops : Array Oper} {j d : Nat} {t : Bool} {χ : Nat → Color} {G : Gh} (hj : (ops[j]?).bind (·.dst) = some d) (hr : RTL χ w G env a.tmps.toList) (he : env.getD d .dead = vB t) : yielded ops a.tmps j = some t := by
  have h1 := hr.get d
  rw [he] at h1
  have h2 : a.tmps.toList.getD d undef = .bool t := h1
  unfold yielded
  rw [hj]
  simp only [Option.bind_some]
  have h3 : a.tmps[d]? = some (.bool t) := by
    rw [List.getD_eq_getElem?_getD, Array.getElem?_toList] at h2
    cases hh : a.tmps[d]? with
    | none => rw [hh] at h2; cases h2
    | some v => rw [hh] at h2; simp at h2; rw [h2]
  rw [h3]

theorem yielded_not {ops : Array Oper} {j d : Nat} {χ : Nat → Color} {G : Gh} (hj : (ops[j]?).bind (·.dst) = some d) (hr : RTL χ w G env a.tmps.toList) (he : env.getD d .dead = .tup []) : yielded ops a.tmps j = none := by
  have h := hr.get d
  rw [he] at h
  obtain ⟨us, hu, h2⟩ := h
  have h2 : us = [] := h2
  subst h2
  unfold yielded
  rw [hj]
  simp only [Option.bind_some]
  cases ht : a.tmps[d]? with
  | none => rfl
  | some v =>
    have : a.tmps.toList.getD d undef = v := by rw [List.getD_eq_getElem?_getD, Array.getElem?_toList, ht]; rfl
    rw [this] at hu
    rw [hu]

theorem guard_sound {ops : Array Oper} {o : Oper} {rest : List Oper} {q : Option (SV → Prop)} {K : St → Prop} {Q : Exit → Act → World → Prop}
    (h : vcGuard P ops o ⟨env, st⟩ q K) (hr : Rel E ⟨env, st⟩ a w) (hk : ∀ σ' a' w', K σ' → Rel E σ' a' w' → wpListIn (FW E.ro) 0 P ops Q rest a' w') : wpListIn (FW E.ro) 0 P ops Q (o :: rest) a w := by
  refine wpListIn_step fun K' hK => ?_
  have run : vcOp P ops o (St.ev ⟨env, st⟩) st q (fun s st' => putK env st' o.dst s K) → o.wpIn (FW E.ro) 0 P a w K' Q := fun h => by
    have := op_sound (Q := Q) h hr
    exact Oper.wpIn_mono (fun a' w' ⟨s, v, st', hR, ha, h2⟩ => by subst ha; exact hK _ _ (hk _ _ _ (putK_iff.1 hR) (Rel.two (o := o.dst) h2))) this
  unfold vcGuard at h
  split at h
  · rename_i hg
    rw [if_pos (by simp [Region.wanted, hg])]
    exact run h
  · rename_i j b hg
    split at h
    · exact h.elim
    · rename_i d hd
      split at h
      · rename_i t he
        obtain ⟨χ, G, hf⟩ := hr
        have hy := yielded_of hd hf.1 he
        split at h
        · rename_i htb
          rw [if_pos (by simp [Region.wanted, hg, hy]; simpa using htb)]
          exact run h
        · rename_i htb
          rw [if_neg (by simp [Region.wanted, hg, hy]; simpa using htb)]
          exact ⟨fun f _ => FW_fn _ f, hK _ _ (hk _ _ _ (putK_iff.1 h) (Rel.two (o := o.dst) (s := .tup []) (v := undef) ⟨χ, G, hf, [], rfl, rfl⟩))⟩
      · rename_i he
        obtain ⟨χ, G, hf⟩ := hr
        have hy := yielded_not hd hf.1 he
        rw [if_neg (by simp [Region.wanted, hg, hy])]
        exact ⟨fun f _ => FW_fn _ f, hK _ _ (hk _ _ _ (putK_iff.1 h) (Rel.two (o := o.dst) (s := .tup []) (v := undef) ⟨χ, G, hf, [], rfl, rfl⟩))⟩
      · exact h.elim

theorem ops_sound {ops : Array Oper} {Q : Exit → Act → World → Prop} : ∀ (l : List Oper) (σ : St) (K : St → Prop) (a : Act) (w : World), vcOps P ops l σ K → Rel E σ a w → (∀ σ' a' w', K σ' → Rel E σ' a' w' → Q .normal a' w') → wpListIn (FW E.ro) 0 P ops Q l a w
  | [], σ, K, a, w, h, hr, hk => wpListIn_nil (hk _ _ _ h hr)
  | o :: rest, ⟨env, st⟩, K, a, w, h, hr, hk => guard_sound h hr fun σ' a' w' h' hr' => ops_sound rest σ' K a' w' h' hr' hk

/-- **The walk over symbolic states is right.** -/
theorem vc_sound : ∀ {k : Kx} (c : Code) (σ : St) (Q : Exit → St → Prop), vc P k c σ Q → awp P k c σ Q
  | k, .skip, σ, Q, h => fun E a w hk hr => wpIn_skip ⟨σ, h, hr⟩
  | k, .seq x y, σ, Q, h => fun E a w hk hr => by
    refine wpIn_seq (wpIn_mono (vc_sound x σ _ h E a w hk hr) ?_)
    rintro e a' w' ⟨σ', hq, hr'⟩
    cases e with
    | normal => obtain ⟨hq⟩ := hq; exact hq E a' w' hk hr'
    | exit id => exact ⟨σ', hq, hr'⟩
    | goto l => exact ⟨σ', hq, hr'⟩
    | ret => exact ⟨σ', hq, hr'⟩
    | panic ch => exact ⟨σ', hq, hr'⟩
    | outgrown => exact ⟨σ', hq, hr'⟩
  | k, .cond c x y, σ, Q, h => fun E a w hk hr => by
    unfold vc at h
    obtain ⟨χ, G, hf⟩ := hr
    have hc := RS_ev hf.1 c
    split at h
    · rename_i t he
      rw [he] at hc
      have hc : a.eval c = .bool t := hc
      cases t with
      | true => exact wpIn_cond_true hc (vc_sound x σ Q h E a w hk ⟨χ, G, hf⟩)
      | false => exact wpIn_cond_false hc (vc_sound y σ Q h E a w hk ⟨χ, G, hf⟩)
    · exact h.elim
  | k, .block id c, σ, Q, h => fun E a w hk hr => by
    refine wpIn_block (wpIn_mono (vc_sound c σ _ h E a w hk hr) ?_)
    rintro e a' w' ⟨σ', hq, hr'⟩
    cases e with
    | exit id' =>
      simp only [Exit.inBlock]
      simp only at hq
      split at hq
      · rename_i e; rw [if_pos e]; exact ⟨σ', hq, hr'⟩
      · rename_i e; rw [if_neg e]; exact ⟨σ', hq, hr'⟩
    | normal => exact ⟨σ', hq, hr'⟩
    | goto l => exact ⟨σ', hq, hr'⟩
    | ret => exact ⟨σ', hq, hr'⟩
    | panic ch => exact ⟨σ', hq, hr'⟩
    | outgrown => exact ⟨σ', hq, hr'⟩
  | k, .exit id, σ, Q, h => fun E a w hk hr => wpIn_exit ⟨σ, h, hr⟩
  | k, .ret, σ, Q, h => fun E a w hk hr => wpIn_ret ⟨σ, h, hr⟩
  | k, .region id ops false, σ, Q, h => fun E a w hk hr => wpIn_region_list (ops_sound ops.toList σ _ a w h hr fun σ' a' w' hq hr' => ⟨σ', hq, hr'⟩)
  | k, .region id ops true, σ, Q, h => by obtain ⟨h⟩ := h; exact h
  | k, .loop c, σ, Q, h => by obtain ⟨h⟩ := h; exact h
  | k, .rangeFunc _ _ _ _, σ, Q, h => by obtain ⟨h⟩ := h; exact h
  | k, .scope _, σ, Q, h => by obtain ⟨h⟩ := h; exact h
  | k, .label _, σ, Q, h => by obtain ⟨h⟩ := h; exact h
  | k, .goto _, σ, Q, h => by obtain ⟨h⟩ := h; exact h
  | k, .refuse _, σ, Q, h => by obtain ⟨h⟩ := h; exact h

/-- The next piece of code. -/
theorem rest_vc {P : Program} {k : Kx} {c : Code} {σ : St} {Q : Exit → St → Prop} (h : vc P k c σ Q) : Rest P k c σ Q := ⟨vc_sound c σ Q h⟩

end
end Go.Sy
