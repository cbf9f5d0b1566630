/- Ends of functions: contracts out of walks. -/
import Derived.Test.YtlnmkolppgkglaaSyN
set_option linter.all false
set_option maxHeartbeats 4000000
namespace Go.Sy
open Go.RowKit

def resList (P : Program) (σ : St) : List ResultVar → (List SV → Prop) → Prop
  | [], K => K []
  | .tmp t :: rs, K => resList P σ rs fun l => K (σ.env.getD t .dead :: l)
  | .cell a t :: rs, K => vcLoad P t (σ.env.getD a .dead) σ.st fun s => resList P σ rs fun l => K (s :: l)

/-- Results that go where nobody writes, as far as they can. -/
def purL (pur : Bool) : List SV → List Ob → (List SV → List Ob → Prop) → Prop
  | [], st, K => K [] st
  | s :: l, st, K => match pur with
    | true => match s.pv st with
      | some p => purL pur l (s.frz st) fun l st => K (.pure p :: l) st
      | none => purL pur l st fun l st => K (s :: l) st
    | false => purL pur l st fun l st => K (s :: l) st

def oneRes : List SV → SV
  | [s] => s
  | l => .tup l

/-- At a function's end: the results; the objects that are handed back. -/
def exitVC (P : Program) (fn : Func) (pur : Bool) (m : Nat) (σ : St) (Q : Res) : Prop :=
  resList P σ fn.results.toList fun l => purL pur l σ.st fun l st =>
    must (decide (m ≤ st.length) && SV.inL m l && (st.take m).all (Ob.inn m)) (Q (oneRes l) (st.take m))

/-- What a body must come to. -/
def bodyVC (P : Program) (fn : Func) (pur : Bool) (m : Nat) (Q : Res) (e : Exit) (σ : St) : Prop :=
  match e with
  | .normal => exitVC P fn pur m σ Q
  | .ret => exitVC P fn pur m σ Q
  | _ => False

def resM (tmps : Array Value) : ResultVar → Sem Value
  | .tmp t => pure (tmps.getD t undef)
  | .cell x t => do loadVar t (← asAddr (tmps.getD x undef))
def oneV : List Value → Value
  | [v] => v
  | vs => .tuple vs.toArray

mutual
theorem up_zero : ∀ (s : SV), s.up (fun _ => 0) = s
  | .pure _ => rfl
  | .ptr _ _ => rfl
  | .vref _ _ => rfl
  | .eptr _ _ _ _ _ => rfl
  | .ipt _ => rfl
  | .mref _ => rfl
  | .agg cs => by simp only [SV.up]; rw [upL_zero cs]
  | .tup cs => by simp only [SV.up]; rw [upL_zero cs]
  | .clo _ cs => by simp only [SV.up]; rw [upL_zero cs]
  | .dead => rfl
  | .lit _ _ => rfl
  | .sref _ _ _ => rfl
  | .yld _ => rfl
  | .bnd _ cs => by simp only [SV.up]; rw [upL_zero cs]
theorem upL_zero : ∀ (cs : List SV), SV.upL (fun _ => 0) cs = cs
  | [] => rfl
  | c :: cs => by simp only [SV.upL]; rw [up_zero c, upL_zero cs]
end

section
variable {P : Program} {E : Ent} {a : Act} {w : World}

theorem resList_ok {χ : Nat → Color} {G : Gh} {σ : St} (hf : Fits E χ G σ a w) : ∀ (rs : List ResultVar) (K : List SV → Prop), resList P σ rs K →
    ∃ l vs, K l ∧ RTL χ w G l vs ∧ (rs.mapM (resM a.tmps)).run P w = .ok vs w
  | [], K, h => ⟨[], [], h, rfl, by simp⟩
  | .tmp t :: rs, K, h => by
    obtain ⟨l, vs, hK, hl, hr⟩ := resList_ok hf rs _ h
    have := hf.1.get t
    refine ⟨_, a.tmps.getD t undef :: vs, hK, ⟨_, _, rfl, by simpa [List.getD_eq_getElem?_getD, Array.getD_eq_getD_getElem?] using this, hl⟩, ?_⟩
    simp only [List.mapM_cons, Sem.run_bind, hr, resM, Sem.run_pure, Result.andThen_ok]
  | .cell x t :: rs, K, h => by
    have hx := hf.1.get x
    obtain ⟨s, v, h, hrun, hs⟩ := load_run hx hf.2.1 h
    obtain ⟨l, vs, hK, hl, hr⟩ := resList_ok hf rs _ h
    refine ⟨_, v :: vs, hK, ⟨_, _, rfl, hs, hl⟩, ?_⟩
    have e1 : a.tmps.toList.getD x undef = a.tmps.getD x undef := by simp [List.getD_eq_getElem?_getD, Array.getD_eq_getD_getElem?]
    rw [e1] at hrun
    have h2 : (resM a.tmps (.cell x t)).run P w = .ok v w := by
      show (do loadVar t (← asAddr (a.tmps.getD x undef)) : Sem Value).run P w = .ok v w
      generalize a.tmps.getD x undef = u at hrun ⊢
      cases u <;> simp [Instr.loadAt, Instr.sureAddr] at hrun
      rename_i ad
      cases ad with
      | none => simp at hrun
      | some ad => simpa [asAddr] using hrun
    simp only [List.mapM_cons, Sem.run_bind, h2, hr, Sem.run_pure, Result.andThen_ok]

theorem purL_ok {pur : Bool} {G : Gh} {env : List SV} : ∀ (l : List SV) {χ : Nat → Color} {st : List Ob} {vs : List Value} {K : List SV → List Ob → Prop}, Fits E χ G ⟨env, st⟩ a w → RTL χ w G l vs → purL pur l st K →
    ∃ χ' l' st', K l' st' ∧ Fits E χ' G ⟨env, st'⟩ a w ∧ ImmLe χ χ' ∧ RTL χ' w G l' vs
  | [], χ, st, vs, K, hf, hl, h => ⟨χ, [], st, h, hf, ImmLe.refl _, hl⟩
  | s :: l, χ, st, vs, K, hf, hl, h => by
    obtain ⟨u, r, rfl, h1, h2⟩ := hl
    unfold purL at h
    split at h
    · split at h
      · rename_i p hp
        obtain ⟨χ1, g1, g2, g3⟩ := pv_frz s hf h1 hp
        obtain ⟨χ2, l', st', hK, k1, k2, k3⟩ := purL_ok l g1 (RTL.mono (g2.keep w) (GGo.refl G) _ _ h2) h
        exact ⟨χ2, _, st', hK, k1, g2.trans k2, u, r, rfl, RP.mono (k2.keep w) _ _ g3, k3⟩
      · obtain ⟨χ2, l', st', hK, k1, k2, k3⟩ := purL_ok l hf h2 h
        exact ⟨χ2, _, st', hK, k1, k2, u, r, rfl, RS.mono (k2.keep w) (GGo.refl G) _ _ h1, k3⟩
    · obtain ⟨χ2, l', st', hK, k1, k2, k3⟩ := purL_ok l hf h2 h
      exact ⟨χ2, _, st', hK, k1, k2, u, r, rfl, RS.mono (k2.keep w) (GGo.refl G) _ _ h1, k3⟩

theorem results_run {fn : Func} {tmps : Array Value} {vs : List Value} (h : (fn.results.toList.mapM (resM tmps)).run P w = .ok vs w) :
    (results fn tmps).run P w = .ok (oneV vs) w := by
  have e : results fn tmps = (fn.results.mapM (resM tmps) >>= fun vs => pure (if h : vs.size = 1 then vs[0] else .tuple vs)) := rfl
  rw [e, Array.mapM_eq_mapM_toList]
  simp only [Sem.run_bind, Sem.run_map, h, Result.andThen_ok, Sem.run_pure]
  match vs with
  | [] => simp [oneV]
  | [v] => simp [oneV]
  | v :: u :: r => simp [oneV]

/-- A mark is taken away. -/
theorem Fits.unmark {χ : Nat → Color} {G : Gh} {σ : St} {tm : Array Value} {d : Deferred} {ds : List Deferred} (h : Fits E χ G σ { tmps := tm, defers := d :: ds } w) (hE : E.dvs = []) :
    ∃ r, d = { target := .collected r, args := #[] } ∧ w.heap[r]? = some (.deferred (some [])) ∧ Fits E (fun b => if b = r then .other else χ b) G σ { tmps := tm, defers := ds } (w.putObj r (.deferred none)) := by
  obtain ⟨h1, h2, h3, ⟨d1, d2, pre, d3, d4, d5⟩, h5, h6, h7⟩ := h
  rw [hE] at d3
  simp only [List.map_nil, List.append_nil] at d3
  subst d3
  obtain ⟨r, e1, e2, e3, e4⟩ := d4 d (by simp)
  refine ⟨r, e1, e4, ?_⟩
  have hne : ∀ b, b ≠ r → (if b = r then Color.other else χ b) = χ b ∧ (w.putObj r (.deferred none)).heap[b]? = w.heap[b]? := fun b hb => ⟨if_neg hb, World.putObj_heap_other hb⟩
  have hk : Keep χ w (fun b => if b = r then .other else χ b) (w.putObj r (.deferred none)) := fun b hlt hi => by
    obtain ⟨k1, k2⟩ := hne b (fun e => by rw [e, e2] at hi; cases hi)
    exact ⟨by simp only; rw [k1]; exact hi, k2⟩
  refine ⟨RTL.mono hk (GGo.refl _) _ _ h1, fun o ob ho => RO.mono hk (GGo.refl _) rfl (fun b hlt hc => ?_) (h2 o ob ho),
    ⟨h3.os, h3.tape, h3.output, by rw [World.putObj_size]; exact h3.size, fun b hlt hi => ?_, fun b hlt hi => ?_⟩, ⟨RTL.mono hk (GGo.refl _) _ _ d1, d2, ds, by rw [hE]; simp, fun d' hd' => ?_, (List.nodup_cons.1 d5).2⟩, h5, h6, h7⟩
  · obtain ⟨k1, k2⟩ := hne b (fun e => by rw [e, e2] at hc; cases hc)
    exact ⟨by (try simp only); rw [k1]; exact hc, k2⟩
  · obtain ⟨k1, k2⟩ := hne b (by omega)
    obtain ⟨k3, k4⟩ := h3.imm b hlt hi
    exact ⟨by (try simp only); rw [k1]; exact k3, by rw [k2]; exact k4⟩
  · obtain ⟨k1, k2⟩ := hne b (by omega)
    obtain ⟨k3, k4⟩ := h3.other b hlt hi
    exact ⟨by (try simp only); rw [k1]; exact k3, by rw [k2]; exact k4⟩
  · obtain ⟨r', f1, f2, f3, f4⟩ := d4 d' (by simp [hd'])
    have hrr : r' ≠ r := by
      rintro rfl
      rw [← e1] at f1
      rw [f1] at hd'
      exact (List.nodup_cons.1 d5).1 hd'
    obtain ⟨k1, k2⟩ := hne r' hrr
    exact ⟨r', f1, by (try simp only); rw [k1]; exact f2, f3, by rw [k2]; exact f4⟩

/-- A function's end: marks are taken away, the results are read. -/
theorem leaves_marks {fn : Func} {R : Ending → World → Prop} {G : Gh} {σ : St} {tm : Array Value} (hE : E.dvs = []) (h : ∀ χ w, Fits E χ G σ { tmps := tm, defers := [] } w → ∃ v, (results fn tm).run P w = .ok v w ∧ R (.returned v) w) :
    ∀ (ds : List Deferred) (χ : Nat → Color) (w : World), Fits E χ G σ { tmps := tm, defers := ds } w → LeavesInM (FW none) 0 P fn tm R ds .returning w
  | [], χ, w, hf => h χ w hf
  | d :: ds, χ, w, hf => by
    obtain ⟨r, e1, e2, hf'⟩ := hf.unmark hE
    exact ⟨by simp, .inl ⟨r, _, by rw [e1], run_takeDeferred e2, leaves_marks hE h ds _ _ hf'⟩⟩

/-- **A contract**: out of a walk of the body. -/
theorem callOk_of {f : FuncId} {fn : Func} {c : Code} {args : List SV} {st : List Ob} {Q : Res} (pur : Bool) (m : Nat) (hfn : P.funcs[f]? = some fn) (hb : fn.body = some c) (hname : (fn.name == "runtime.NumGoroutine") = false) (hm : st.length ≤ m)
    (h : vc P { n := st.length } c ⟨args ++ List.replicate (fn.ntmps - args.length) .dead, st⟩ (bodyVC P fn pur m Q)) : CallOk P f args st Q := by
  refine fun χ G w vs hargs hst hG => .inl ⟨⟨fn, hfn, by rw [hb]; rfl, hname⟩, ?_⟩
  refine (FW_calls (ro := none) (n := 0)).1 (callsIn_of_wp_marks hfn hb (FW_fn _ _) ?_)
  have hrel : Rel ⟨χ, w, G, { n := st.length }, [], none⟩ ⟨args ++ List.replicate (fn.ntmps - args.length) .dead, st⟩ { tmps := vs.toArray ++ Array.replicate (fn.ntmps - vs.toArray.size) undef, defers := [] } w := by
    refine ⟨χ, G, ?_, hst, ⟨rfl, rfl, rfl, Nat.le_refl _, fun b _ h => ⟨h, rfl⟩, fun b _ h => ⟨h, rfl⟩⟩, ⟨rfl, fun _ => rfl, [], rfl, by simp, List.nodup_nil⟩, Nat.le_refl _, fun o _ => ⟨fun g h => h, fun n hd hh => ⟨n, hd, hh, Nat.le_refl _, fun _ => rfl⟩⟩, hG⟩
    have := hargs.append (RTL.replicate_dead (χ := χ) (w := w) (G := G) (fn.ntmps - args.length) undef)
    simpa [hargs.length] using this
  refine wpIn_mono (vc_sound c _ _ h _ _ _ rfl hrel) ?_
  rintro e a' w0 ⟨σ', hq, hr⟩
  have fin : exitVC P fn pur m σ' Q → LeavesInM (FW none) 0 P fn a'.tmps (fun e w' => ∃ r v' st' χ' G', Q r st' ∧ e = .returned v' ∧ RS χ' w' G' r v' ∧ RSt χ' w' G' st' ∧ Fr χ w χ' w' ∧ st.length ≤ st'.length ∧ GLe st.length G G' ∧ (∀ o, st'.length ≤ o → G' o = none)) a'.defers .returning w0 := by
    intro hx
    obtain ⟨χ0, G1, hf0⟩ := hr
    refine leaves_marks (E := ⟨χ, w, G, { n := st.length }, [], none⟩) (G := G1) (σ := σ') rfl (fun χ1 w' hf => ?_) a'.defers χ0 w0 hf0
    obtain ⟨l, us, hx, hl, hrun⟩ := resList_ok hf _ _ hx
    obtain ⟨χ2, l', st', hx, hf2, him, hl2⟩ := purL_ok l hf hl hx
    simp only [must_iff, Bool.and_eq_true, decide_eq_true_eq] at hx
    obtain ⟨⟨⟨hm1, hin⟩, hin2⟩, hQ⟩ := hx
    obtain ⟨k1, k2, k3, k4, k5, k6, k7⟩ := hf2
    refine ⟨_, results_run hrun, _, _, _, χ2, dn (fun _ => 0) m G1, hQ, rfl, ?_, fun o ob ho => ?_, k3, by simp; omega, fun o ho => ?_, fun o ho => ?_⟩
    · have hl3 := RTL.dn (f := fun _ => 0) (m := m) l' us hin (by rw [upL_zero]; exact hl2)
      match l', us, hl3 with
      | [], us, h => simp [RTL] at h; subst h; exact ⟨[], rfl, rfl⟩
      | [s], us, ⟨u, r, e, h1, h2⟩ => simp [RTL] at h2; subst h2; subst e; exact h1
      | s :: s' :: l, us, h =>
        obtain ⟨u, r, rfl, h1, u', r', rfl, h2, h3⟩ := h
        exact ⟨_, rfl, u, _, rfl, h1, u', _, rfl, h2, h3⟩
    · have hlt : o < m := by have := (List.getElem?_eq_some_iff.1 ho).1; simp at this; omega
      rw [List.getElem?_take, if_pos hlt] at ho
      have hob : ob.inn m = true := by
        rw [List.all_eq_true] at hin2
        exact hin2 ob (List.mem_of_getElem? (i := o) (by rw [List.getElem?_take, if_pos hlt]; exact ho))
      refine RO.dn hlt hob ?_
      have := k2 o ob ho
      cases ob with
      | cells t cs => simp only [Ob.up]; rw [upL_zero]; exact this
      | loop env ps asg body s pend => simp only [Ob.up]; rw [upL_zero]; exact this
      | _ => exact this
    · obtain ⟨q1, q2⟩ := k6 o ho
      have hlt : o < m := by omega
      refine ⟨fun g hg => by simp [dn, hlt, q1 g hg], fun n hd hh => ?_⟩
      obtain ⟨m', h', e1, e2, e3⟩ := q2 n hd hh
      exact ⟨m', h', by simp [dn, hlt, e1], e2, e3⟩
    · have : ¬ o < m := by simp at ho; omega
      unfold dn
      rw [if_neg this]
  cases e with
  | normal => exact fin hq
  | ret => exact fin hq
  | exit id => exact hq.elim
  | goto l => exact hq.elim
  | panic ch => exact hq.elim
  | outgrown => exact hq.elim

theorem CallOk.mono {f : FuncId} {args : List SV} {st : List Ob} {Q Q' : Res} (h : CallOk P f args st Q) (hq : ∀ r st', Q r st' → Q' r st') : CallOk P f args st Q' :=
  fun χ G w vs h1 h2 h3 => (h χ G w vs h1 h2 h3).mono fun e w' ⟨r, v, st', χ', G', hQ, rest⟩ => ⟨r, v, st', χ', G', hq r st' hQ, rest⟩

end
end Go.Sy
