/- Calls: a contract serves wherever its arguments fit. -/
import Derived.Test.YtlnmkolppgkglaaSyK
set_option linter.all false
set_option maxHeartbeats 4000000
namespace Go.Sy
open Go.RowKit

section
variable {χ χ' : Nat → Color} {w : World} {G G' : Gh} {m : Nat → Nat} (hI : ∀ b, b < w.heap.size → χ b = .imm → χ' b = .imm)
include hI
theorem keepI : Keep χ w χ' w := fun b hb h => ⟨hI b hb h, rfl⟩
section
variable (hG : ∀ j h, G j = some h → G' (m j) = some h)
include hG
mutual
theorem RS.rn : ∀ (s : SV) (v : Value), RS χ w G s v → RS χ' w G' (s.rn m) v
  | .pure p, v, h => RP.mono (keepI hI) p v h
  | .ptr o k, v, ⟨g, h, e⟩ => ⟨g, hG _ _ h, e⟩
  | .vref o n, v, ⟨h0, k, h, h1, h2⟩ => ⟨h0, k, h, hG _ _ h1, h2⟩
  | .eptr o n sz i off, v, ⟨ad, h0, k, h, h1, h2⟩ => ⟨ad, h0, k, h, hG _ _ h1, h2⟩
  | .ipt cs, v, ⟨ad, us, h1, h2, h3⟩ => ⟨ad, us, h1, RL.mono (keepI hI) cs us h2, h3.mono (keepI hI)⟩
  | .mref o, v, ⟨g, h, e⟩ => ⟨g, hG _ _ h, e⟩
  | .agg cs, v, ⟨us, h1, h2⟩ => ⟨us, h1, RSL.rn cs us h2⟩
  | .tup cs, v, ⟨us, h1, h2⟩ => ⟨us, h1, RTL.rn cs us h2⟩
  | .clo f cs, v, ⟨us, h1, h2⟩ => ⟨us, h1, RTL.rn cs us h2⟩
  | .dead, v, h => trivial
  | .lit sz xs, v, ⟨h, e⟩ => ⟨RP.mono (keepI hI) _ v h, e⟩
  | .sref o k n, v, ⟨g, c, h, e⟩ => ⟨g, c, hG _ _ h, e⟩
  | .yld o, v, ⟨g, h, e⟩ => ⟨g, hG _ _ h, e⟩
  | .bnd f cs, v, ⟨us, h1, h2⟩ => ⟨us, h1, RTL.rn cs us h2⟩
theorem RSL.rn : ∀ (cs : List SV) (us : List Value), RSL χ w G cs us → RSL χ' w G' (SV.rnL m cs) us
  | [], us, h => h
  | c :: cs, us, ⟨u, r, h1, h2, h3, h4⟩ => ⟨u, r, h1, h2, RS.rn c u h3, RSL.rn cs r h4⟩
theorem RTL.rn : ∀ (cs : List SV) (us : List Value), RTL χ w G cs us → RTL χ' w G' (SV.rnL m cs) us
  | [], us, h => h
  | c :: cs, us, ⟨u, r, h1, h2, h3⟩ => ⟨u, r, h1, RS.rn c u h2, RTL.rn cs r h3⟩
end
end
section
variable {k : Nat} (hG : ∀ j h, j < k → G (m j) = some h → G' j = some h)
include hG
mutual
theorem RS.unrn : ∀ (s : SV) (v : Value), s.inn k = true → RS χ w G (s.rn m) v → RS χ' w G' s v
  | .pure p, v, hs, h => RP.mono (keepI hI) p v h
  | .ptr o k, v, hs, ⟨g, h, e⟩ => ⟨g, hG _ _ (by simpa [SV.inn] using hs) h, e⟩
  | .vref o n, v, hs, ⟨h0, k, h, h1, h2⟩ => ⟨h0, k, h, hG _ _ (by simpa [SV.inn] using hs) h1, h2⟩
  | .eptr o n sz i off, v, hs, ⟨ad, h0, k, h, h1, h2⟩ => ⟨ad, h0, k, h, hG _ _ (by simpa [SV.inn] using hs) h1, h2⟩
  | .ipt cs, v, hs, ⟨ad, us, h1, h2, h3⟩ => ⟨ad, us, h1, RL.mono (keepI hI) cs us h2, h3.mono (keepI hI)⟩
  | .mref o, v, hs, ⟨g, h, e⟩ => ⟨g, hG _ _ (by simpa [SV.inn] using hs) h, e⟩
  | .agg cs, v, hs, ⟨us, h1, h2⟩ => ⟨us, h1, RSL.unrn cs us (by simpa [SV.inn] using hs) h2⟩
  | .tup cs, v, hs, ⟨us, h1, h2⟩ => ⟨us, h1, RTL.unrn cs us (by simpa [SV.inn] using hs) h2⟩
  | .clo f cs, v, hs, ⟨us, h1, h2⟩ => ⟨us, h1, RTL.unrn cs us (by simpa [SV.inn] using hs) h2⟩
  | .dead, v, hs, h => trivial
  | .lit sz xs, v, hs, ⟨h, e⟩ => ⟨RP.mono (keepI hI) _ v h, e⟩
  | .sref o k n, v, hs, ⟨g, c, h, e⟩ => ⟨g, c, hG _ _ (by simpa [SV.inn] using hs) h, e⟩
  | .yld o, v, hs, ⟨g, h, e⟩ => ⟨g, hG _ _ (by simpa [SV.inn] using hs) h, e⟩
  | .bnd f cs, v, hs, ⟨us, h1, h2⟩ => ⟨us, h1, RTL.unrn cs us (by simpa [SV.inn] using hs) h2⟩
theorem RSL.unrn : ∀ (cs : List SV) (us : List Value), SV.inL k cs = true → RSL χ w G (SV.rnL m cs) us → RSL χ' w G' cs us
  | [], us, hs, h => h
  | c :: cs, us, hs, ⟨u, r, h1, h2, h3, h4⟩ => by
    simp only [SV.inL, Bool.and_eq_true] at hs
    exact ⟨u, r, h1, h2, RS.unrn c u hs.1 h3, RSL.unrn cs r hs.2 h4⟩
theorem RTL.unrn : ∀ (cs : List SV) (us : List Value), SV.inL k cs = true → RTL χ w G (SV.rnL m cs) us → RTL χ' w G' cs us
  | [], us, hs, h => h
  | c :: cs, us, hs, ⟨u, r, h1, h2, h3⟩ => by
    simp only [SV.inL, Bool.and_eq_true] at hs
    exact ⟨u, r, h1, RS.unrn c u hs.1 h2, RTL.unrn cs r hs.2 h3⟩
end
end
end

mutual
theorem SV.rn_id : ∀ (s : SV), s.rn id = s
  | .pure p => rfl
  | .ptr o k => rfl
  | .vref o n => rfl
  | .eptr o n sz i off => rfl
  | .ipt cs => rfl
  | .mref o => rfl
  | .agg cs => by simp only [SV.rn]; rw [SV.rnL_id cs]
  | .tup cs => by simp only [SV.rn]; rw [SV.rnL_id cs]
  | .clo f cs => by simp only [SV.rn]; rw [SV.rnL_id cs]
  | .dead => rfl
  | .lit _ _ => rfl
  | .sref _ _ _ => rfl
  | .yld _ => rfl
  | .bnd _ cs => by simp only [SV.rn]; rw [SV.rnL_id cs]
theorem SV.rnL_id : ∀ (cs : List SV), SV.rnL id cs = cs
  | [] => rfl
  | c :: cs => by
    simp only [SV.rnL]
    rw [SV.rn_id c, SV.rnL_id cs]
end

section
variable {P : Program} {E : Ent} {χ : Nat → Color} {G : Gh} {env : List SV} {st : List Ob} {a : Act} {w : World}

/-- What a callee may read, what it may not touch. -/
def chi (own : Bool) (χ : Nat → Color) (w : World) (b : Nat) : Color :=
  if b < w.heap.size then (match χ b with | .imm => .imm | .own _ => if own then .imm else .other | .other => .other | .mrk => .other) else .other

theorem fz_ok' (hst : RSt χ w G st) {s : SV} {v : Value} (hs : RS χ w G s v) (hn : (s.fz st).inn 0 = true) (hp : ∀ o k, s ≠ .ptr o k) : RS (chi true χ w) w (fun _ => none) (s.fz st) v := by
  have hI : ∀ b, b < w.heap.size → χ b = .imm → chi true χ w b = .imm := fun b hb h => by simp [chi, hb, h]
  have plain : s.fz st = s → RS (chi true χ w) w (fun _ => none) (s.fz st) v := fun e => by
    rw [e] at hn ⊢
    exact RS.unrn (m := id) (k := 0) hI (fun j h hj => by omega) s v hn (by rw [SV.rn_id s]; exact hs)
  cases s with
  | vref o n =>
    obtain ⟨h0, m, hd, hG, hle, hv⟩ := hs
    cases hob : st[o]? with
    | none => simp [SV.fz, hob, SV.inn] at hn
    | some ob =>
      cases ob with
      | cells t cs => simp [SV.fz, hob, SV.inn] at hn
      | gone => simp [SV.fz, hob, SV.inn] at hn
      | row t n xs => simp [SV.fz, hob, SV.inn] at hn
      | loop env ps asg body s pend => simp [SV.fz, hob, SV.inn] at hn
      | map es => simp [SV.fz, hob, SV.inn] at hn
      | vec m' e sz nl xs =>
        by_cases hnm : n = m'
        · subst hnm
          simp only [SV.fz, hob, if_true]
          obtain ⟨hd', us, hG', hown, hf, hnl, hcol⟩ := hst o _ hob
          rw [hG] at hG'
          injection hG' with hG'
          injection hG' with e1 e2
          subst e1 e2
          have := hv rfl
          subst this
          have hf' := RF.mono (keepI hI) _ _ _ hf
          rcases hown.2 with ⟨rfl, h0'⟩ | ⟨g, c, cur, rfl, _, hh, hle', hm, hcs, htk⟩
          · have hus : us = [] := List.eq_nil_of_length_eq_zero (by rw [hown.1, h0', Nat.zero_mul])
            subst hus
            exact ⟨none, 0, [], by rw [h0'], by omega, Nat.zero_le _, fun _ => rfl, by simpa using hnl, hf', fun k u hu => by simp at hu⟩
          · have hg := (Array.getElem?_eq_some_iff.1 hh).1
            refine ⟨_, c, us, rfl, hle', hm, fun h => (by cases h), by simpa using hnl, hf', fun k u hu => ⟨_, rfl, ?_, ?_⟩⟩
            · simp only [chi]
              rw [if_pos hg, hcol g rfl]
              rfl
            · rw [add_pl, World.cell?, hh]
              simp only [Option.isSome_none, Bool.false_eq_true, if_false, Nat.zero_add]
              rw [← htk, List.getElem?_take] at hu
              split at hu
              · simpa using hu
              · cases hu
        · simp [SV.fz, hob, hnm, SV.inn] at hn
      | fro m' sz nl xs =>
        by_cases hnm : n = m'
        · subst hnm
          simp only [SV.fz, hob, if_true]
          obtain ⟨hd', hG', hr⟩ := hst o _ hob
          rw [hG] at hG'
          injection hG' with hG'
          injection hG' with e1 e2
          subst e1 e2
          have := hv rfl
          subst this
          exact RP.mono (keepI hI) _ _ hr
        · simp [SV.fz, hob, hnm, SV.inn] at hn
  | sref o k n =>
    obtain ⟨g, c, hG, rfl, h1, h2⟩ := hs
    cases hob : st[o]? with
    | none => simp [SV.fz, hob, SV.inn] at hn
    | some ob =>
      cases ob with
      | row t m xs =>
        by_cases hkn : k + n ≤ m
        · simp only [SV.fz, hob, hkn, if_true]
          obtain ⟨g', us, vs, hG', hcol, hh, hum, hl⟩ := hst o _ hob
          rw [hG] at hG'
          injection hG' with hG'
          injection hG' with hG'
          subst hG'
          have hg := (Array.getElem?_eq_some_iff.1 hh).1
          have hlen := hl.length
          have hl2 : RL (chi true χ w) w ((xs.drop k).take n) ((us.drop k).take n) := RL.mono (keepI hI) _ _ ((hl.drop k).take n)
          have e1 : ((xs.drop k).take n).length = n := by simp; omega
          refine ⟨_, c, (us.drop k).take n, by rw [e1], by rw [e1]; exact h1, h2, fun h => (by cases h), by simp, RF_ones hl2, fun j u hu => ⟨_, rfl, ?_, ?_⟩⟩
          · simp only [chi]
            rw [if_pos hg, hcol]
            rfl
          · rw [add_pl, World.cell?, hh]
            rw [List.getElem?_take] at hu
            split at hu
            · rw [List.getElem?_drop] at hu
              have hj := (List.getElem?_eq_some_iff.1 hu).1
              simpa [List.getElem?_append_left hj] using hu
            · cases hu
        · simp [SV.fz, hob, hkn, SV.inn] at hn
      | _ => simp [SV.fz, hob, SV.inn] at hn
  | ptr o k => exact absurd rfl (hp o k)
  | _ => exact plain rfl

mutual
/-- What is read of a value while nobody writes. -/
theorem pv_chi (hst : RSt χ w G st) : ∀ (s : SV) (v : Value) (p : PV), RS χ w G s v → s.pv st = some p → RP (chi true χ w) w p v
  | .pure q, v, p, hs, h => by
    have hI : ∀ b, b < w.heap.size → χ b = .imm → chi true χ w b = .imm := fun b hb h => by simp [chi, hb, h]
    simp only [SV.pv, Option.some.injEq] at h
    subst h
    exact RP.mono (keepI hI) _ _ hs
  | .vref o n, v, p, hs, h => by
    have e : (SV.vref o n).fz st = .pure p := by
      simp only [SV.pv, look] at h
      simp only [SV.fz]
      cases hob : st[o]? with
      | none => rw [hob] at h; cases h
      | some ob =>
        rw [hob] at h
        cases ob with
        | vec m e sz nl xs =>
          simp only at h ⊢
          split at h
          · rename_i hnm
            rw [if_pos hnm]
            simp only [Option.some.injEq] at h
            rw [h]
          · cases h
        | fro m sz nl xs =>
          simp only at h ⊢
          split at h
          · rename_i hnm
            rw [if_pos hnm]
            simp only [Option.some.injEq] at h
            rw [h]
          · cases h
        | _ => cases h
    have := fz_ok' hst hs (by rw [e]; rfl) (fun _ _ h => by cases h)
    rw [e] at this
    exact this
  | .agg cs, v, p, ⟨us, hv, hl⟩, h => by
    simp only [SV.pv] at h
    split at h
    · rename_i ps hps
      simp only [Option.some.injEq] at h
      subst h
      exact ⟨us, hv, pvL_chi hst cs us ps hl hps⟩
    · cases h
  | .ptr _ _, v, p, hs, h => by simp [SV.pv] at h
  | .eptr _ _ _ _ _, v, p, hs, h => by simp [SV.pv] at h
  | .ipt _, v, p, hs, h => by simp [SV.pv] at h
  | .mref _, v, p, hs, h => by simp [SV.pv] at h
  | .tup _, v, p, hs, h => by simp [SV.pv] at h
  | .clo _ _, v, p, hs, h => by simp [SV.pv] at h
  | .dead, v, p, hs, h => by simp [SV.pv] at h
  | .lit _ _, v, p, hs, h => by simp [SV.pv] at h
  | .sref _ _ _, v, p, hs, h => by simp [SV.pv] at h
  | .yld _, v, p, hs, h => by simp [SV.pv] at h
  | .bnd _ _, v, p, hs, h => by simp [SV.pv] at h
theorem pvL_chi (hst : RSt χ w G st) : ∀ (cs : List SV) (us : List Value) (ps : List PV), RSL χ w G cs us → SV.pvL st cs = some ps → RL (chi true χ w) w ps us
  | [], us, ps, hl, h => by
    simp only [SV.pvL, Option.some.injEq] at h
    subst h
    exact hl
  | c :: cs, us, ps, ⟨u, r, h1, h2, h3, h4⟩, h => by
    simp only [SV.pvL] at h
    split at h
    · rename_i p ps' hp hps
      simp only [Option.some.injEq] at h
      subst h
      exact ⟨u, r, h1, h2, pv_chi hst c u p h3 hp, pvL_chi hst cs r ps' h4 hps⟩
    · cases h
end

theorem fz_ok (hst : RSt χ w G st) {s : SV} {v : Value} (hs : RS χ w G s v) (hn : (s.fz st).inn 0 = true) : RS (chi true χ w) w (fun _ => none) (s.fz st) v := by
  by_cases hp : ∃ o k, s = .ptr o k
  · obtain ⟨o, k, rfl⟩ := hp
    obtain ⟨g, hG, rfl⟩ := hs
    cases hob : st[o]? with
    | none => simp [SV.fz, hob, SV.inn] at hn
    | some ob =>
      cases ob with
      | cells t cs =>
        cases hps : SV.pvL st cs with
        | none => simp [SV.fz, hob, hps, SV.inn] at hn
        | some ps =>
          simp only [SV.fz, hob, hps]
          obtain ⟨g', us, hG', hcol, hh, hl⟩ := hst o _ hob
          rw [hG] at hG'
          injection hG' with hG'
          injection hG' with hG'
          subst hG'
          have hg := (Array.getElem?_eq_some_iff.1 hh).1
          refine ⟨_, us.drop k, rfl, (pvL_chi hst cs us ps hl hps).drop k, fun j u hu => ⟨_, rfl, ?_, ?_⟩⟩
          · simp only [chi]
            rw [if_pos hg, hcol]
            rfl
          · rw [add_pl, World.cell?, hh]
            rw [List.getElem?_drop] at hu
            simpa using hu
      | _ => simp [SV.fz, hob, SV.inn] at hn
  · exact fz_ok' hst hs hn fun o k e => hp ⟨o, k, e⟩

theorem fzL_ok (hst : RSt χ w G st) : ∀ {args : List SV} {vs : List Value}, RTL χ w G args vs → SV.inL 0 (args.map (SV.fz st)) = true → RTL (chi true χ w) w (fun _ => none) (args.map (SV.fz st)) vs
  | [], vs, h, hn => h
  | s :: args, vs, ⟨u, r, h1, h2, h3⟩, hn => by
    simp only [List.map_cons, SV.inL, Bool.and_eq_true] at hn
    exact ⟨u, r, h1, fz_ok hst h2 hn.1, fzL_ok hst h3 hn.2⟩

theorem RS_flat {χ χ' : Nat → Color} {w w' : World} {G G' : Gh} {r : SV} {v : Value} (hf : r.flat = true) (h : RS χ w G r v) : RS χ' w' G' r v := by
  cases r with
  | pure p =>
    cases p with
    | val u => exact h
    | agg cs => simp [SV.flat] at hf
    | list sz nl xs => simp [SV.flat] at hf
  | tup cs =>
    obtain ⟨us, rfl, hl⟩ := h
    refine ⟨us, rfl, ?_⟩
    simp only [SV.flat] at hf
    induction cs generalizing us with
    | nil => exact hl
    | cons c cs ih =>
      obtain ⟨u, r, rfl, h1, h2⟩ := hl
      simp only [List.all_cons, Bool.and_eq_true] at hf
      refine ⟨u, r, rfl, ?_, ih hf.2 r h2⟩
      cases c with
      | pure p => cases p with
        | val u => exact h1
        | agg cs => simp at hf
        | list sz nl xs => simp at hf
      | _ => simp at hf
  | _ => simp [SV.flat] at hf

theorem call_pure {f : FuncId} {args : List SV} {vs : List Value} {q : SV → Prop} (hfit : Fits E χ G ⟨env, st⟩ a w) (hargs : RTL χ w G args vs)
    (h : CallOk P f (args.map (SV.fz st)) [] fun r st' => st' = [] ∧ q r) (hn : SV.inL 0 (args.map (SV.fz st)) = true) (hf : args.map (SV.fz st) = args ∨ ∀ r, q r → r.flat = true) :
    RunsTo P f vs.toArray w fun e w' => ∃ r v, q r ∧ e = .returned v ∧ Rel2 E ⟨env, st⟩ a w' r v := by
  -- behind a call that could write nothing
  have fin : ∀ (own : Bool) {χ1 : Nat → Color} {w' : World}, Fr (chi own χ w) w χ1 w' →
      Fits E (fun b => if b < w.heap.size then χ b else (match χ1 b with | .imm => .imm | _ => .other)) G ⟨env, st⟩ a w' := by
    intro own χ1 w' hfr
    refine hfit.ext hfr.os hfr.tape hfr.output hfr.size (fun b hb => ⟨by (try simp only); rw [if_pos hb], ?_⟩)
    cases hc : chi own χ w b with
    | imm => exact (hfr.imm b hb hc).2
    | other => exact (hfr.other b hb hc).2
    | own o =>
      simp only [chi] at hc
      rw [if_pos hb] at hc
      cases hcb : χ b <;> simp [hcb] at hc
      cases own <;> simp at hc
    | mrk =>
      simp only [chi] at hc
      rw [if_pos hb] at hc
      cases hcb : χ b <;> simp [hcb] at hc
      cases own <;> simp at hc
  rcases hf with hf | hf
  · rw [hf] at h hn
    have hI : ∀ b, b < w.heap.size → χ b = .imm → chi false χ w b = .imm := fun b hb h => by simp [chi, hb, h]
    have hargs' : RTL (chi false χ w) w (fun _ => none) args vs := RTL.unrn (m := id) (k := 0) hI (fun j h hj => by omega) args vs hn (by rw [SV.rnL_id args]; exact hargs)
    refine (h (chi false χ w) (fun _ => none) w vs hargs' (fun o ob ho => by simp at ho) (fun _ _ => rfl)).mono ?_
    rintro e w' ⟨r, v, st', χ1, G1, ⟨rfl, hq⟩, rfl, hr, _, hfr, _, _, hG1⟩
    refine ⟨r, v, hq, rfl, (fin false hfr).two ?_⟩
    have hr0 : (∀ j h, G1 j = some h → G (id j) = some h) := fun j h hj => by rw [hG1 j (Nat.zero_le _)] at hj; cases hj
    have := RS.rn (m := id) (χ' := fun b => if b < w.heap.size then χ b else (match χ1 b with | .imm => .imm | _ => .other)) (G' := G) (fun b hb hi => by
      (try simp only)
      split
      · rename_i hlt
        have hfr1 := hfr.imm b hlt
        have hfr2 := hfr.other b hlt
        cases hcb : χ b with
        | imm => rfl
        | own o =>
          have : chi false χ w b = .other := by simp [chi, hlt, hcb]
          rw [(hfr2 this).1] at hi; cases hi
        | other =>
          have : chi false χ w b = .other := by simp [chi, hlt, hcb]
          rw [(hfr2 this).1] at hi; cases hi
        | mrk =>
          have : chi false χ w b = .other := by simp [chi, hlt, hcb]
          rw [(hfr2 this).1] at hi; cases hi
      · rw [hi]) hr0 r v hr
    rw [SV.rn_id] at this
    exact this
  · have hargs' := fzL_ok hfit.2.1 hargs hn
    refine (h (chi true χ w) (fun _ => none) w vs hargs' (fun o ob ho => by simp at ho) (fun _ _ => rfl)).mono ?_
    rintro e w' ⟨r, v, st', χ1, G1, ⟨rfl, hq⟩, rfl, hr, _, hfr, _, _, hG1⟩
    exact ⟨r, v, hq, rfl, (fin true hfr).two (RS_flat (hf r hq) hr)⟩

/-- The place of an object among the callee's. -/
def ixOf (ids : List Nat) (o : Nat) : Nat := ids.idxOf o
theorem ixOf_lt {ids : List Nat} {o : Nat} (h : o ∈ ids) : ixOf ids o < ids.length := List.idxOf_lt_length_of_mem h
theorem getD_ixOf {ids : List Nat} {o : Nat} (h : o ∈ ids) : ids.getD (ixOf ids o) 0 = o := by
  rw [List.getD_eq_getElem?_getD, List.getElem?_eq_getElem (ixOf_lt h)]
  simp [ixOf]
theorem ixOf_getD {ids : List Nat} (hn : ids.Nodup) {j : Nat} (h : j < ids.length) : ixOf ids (ids.getD j 0) = j := by
  rw [List.getD_eq_getElem?_getD, List.getElem?_eq_getElem h]
  exact hn.idxOf_getElem j h
theorem getD_mem {ids : List Nat} {j : Nat} (h : j < ids.length) : ids.getD j 0 ∈ ids := by
  rw [List.getD_eq_getElem?_getD, List.getElem?_eq_getElem h]
  exact List.getElem_mem h

theorem putAll_at (m : Nat → Nat) : ∀ (ids : List Nat) (obs st : List Ob), ids.Nodup → (∀ i ∈ ids, i < st.length) → ids.length ≤ obs.length →
    (putAll m ids obs st).length = st.length ∧ ∀ o, (putAll m ids obs st)[o]? = if o ∈ ids then (obs[ixOf ids o]?).map (Ob.rn m) else st[o]?
  | [], obs, st, hn, hi, hl => by cases obs <;> simp [putAll]
  | i :: ids, [], st, hn, hi, hl => by simp at hl
  | i :: ids, ob :: obs, st, hn, hi, hl => by
    rw [List.nodup_cons] at hn
    obtain ⟨h1, h2⟩ := putAll_at m ids obs (st.set i (ob.rn m)) hn.2 (fun j hj => by simp; exact hi j (by simp [hj])) (by simpa using hl)
    simp only [putAll]
    refine ⟨by rw [h1]; simp, fun o => ?_⟩
    rw [h2 o]
    by_cases e : o = i
    · subst e
      have hlt := hi o (by simp)
      simp [hn.1, ixOf, hlt]
    · have e' : i ≠ o := fun h => e h.symm
      by_cases hm : o ∈ ids
      · have h3 : (i == o) = false := by simpa using e'
        simp [hm, ixOf, List.idxOf_cons, h3]
      · simp [hm, e, e', List.getElem?_set_ne e']

def tr (m : Nat → Nat) : Color → Color
  | .imm => .imm
  | .own j => .own (m j)
  | .other => .other
  | .mrk => .other

/-- What a callee sees of objects that it is handed, and what its caller sees behind it. -/
theorem obj_step {args args' : List SV} {vs : List Value} {ids : List Nat} {obs : List Ob} (hfit : Fits E χ G ⟨env, st⟩ a w) (hargs : RTL χ w G args vs)
    (hn : ids.Nodup) (hi : ∀ i ∈ ids, i < st.length) (ha : args = SV.rnL (fun j => ids.getD j 0) args') (hb : SV.inL ids.length args' = true)
    (ho : ids.map (fun i => st.getD i .gone) = obs.map (Ob.rn fun j => ids.getD j 0)) (hob : obs.all (Ob.inn ids.length) = true) :
    ∃ χc Gc, RTL χc w Gc args' vs ∧ RSt χc w Gc obs ∧ (∀ o, obs.length ≤ o → Gc o = none) ∧ (∀ j, j < ids.length → Gc j = G (ids.getD j 0)) ∧
      ∀ r v st' χ1 G1 w', RS χ1 w' G1 r v → RSt χ1 w' G1 st' → Fr χc w χ1 w' → obs.length ≤ st'.length → GLe obs.length Gc G1 → (∀ o, st'.length ≤ o → G1 o = none) →
        ∃ χ' G', Fits E χ' G' ⟨env, backSt ids st st'⟩ a w' ∧ RS χ' w' G' (r.rn (backN ids st.length)) v ∧ GGo G G' := by
  have hol : obs.length = ids.length := by simpa using (congrArg List.length ho).symm
  -- what the callee sees
  generalize hχc : (fun b => if b < w.heap.size then (match χ b with | .imm => Color.imm | .own o => if o ∈ ids then .own (ixOf ids o) else .other | .other => .other | .mrk => .other) else .other) = χc
  generalize hGc : (fun j => if j < ids.length then G (ids.getD j 0) else none) = Gc
  have c1 : ∀ b, b < w.heap.size → χ b = .imm → χc b = .imm := fun b hb h => by rw [← hχc]; simp [hb, h]
  have c2 : ∀ b o, b < w.heap.size → χ b = .own o → o ∈ ids → χc b = .own (ixOf ids o) := fun b o hb h hm => by rw [← hχc]; simp [hb, h, hm]
  have c3 : ∀ b o, b < w.heap.size → χ b = .own o → o ∉ ids → χc b = .other := fun b o hb h hm => by rw [← hχc]; simp [hb, h, hm]
  have c4 : ∀ b, b < w.heap.size → χ b = .other → χc b = .other := fun b hb h => by rw [← hχc]; simp [hb, h]
  have c5 : ∀ b, b < w.heap.size → χ b = .mrk → χc b = .other := fun b hb h => by rw [← hχc]; simp [hb, h]
  have g1 : ∀ j h, j < ids.length → G (ids.getD j 0) = some h → Gc j = some h := fun j h hj hh => by rw [← hGc]; simp only; rw [if_pos hj]; exact hh
  have g2 : ∀ j, j < ids.length → Gc j = G (ids.getD j 0) := fun j hj => by rw [← hGc]; simp only; rw [if_pos hj]
  have g3 : ∀ j, ids.length ≤ j → Gc j = none := fun j hj => by rw [← hGc]; simp only; rw [if_neg (by omega)]
  have hargs' : RTL χc w Gc args' vs := RTL.unrn (m := fun j => ids.getD j 0) (k := ids.length) c1 g1 args' vs hb (by rw [← ha]; exact hargs)
  have hobs : RSt χc w Gc obs := by
    intro j ob hj
    have hjl : j < ids.length := by rw [← hol]; exact (List.getElem?_eq_some_iff.1 hj).1
    have hmem := getD_mem hjl
    have hin : ob.inn ids.length = true := by
      rw [List.all_eq_true] at hob
      exact hob ob (List.mem_of_getElem? hj)
    have e1 : st[ids.getD j 0]? = some (ob.rn fun j => ids.getD j 0) := by
      have := congrArg (fun l => l[j]?) ho
      simp only [List.getElem?_map, hj, List.getElem?_eq_getElem hjl, Option.map_some, Option.some.injEq] at this
      have e2 : ids.getD j 0 = ids[j] := by rw [List.getD_eq_getElem?_getD, List.getElem?_eq_getElem hjl]; rfl
      rw [e2, ← this, List.getD_eq_getElem?_getD, List.getElem?_eq_getElem (hi _ (List.getElem_mem hjl))]
      rfl
    have hro := hfit.2.1 _ _ e1
    have hcol : ∀ g, χ g = .own (ids.getD j 0) → g < w.heap.size → χc g = .own j := fun g hg hlt => by rw [c2 g _ hlt hg hmem, ixOf_getD hn hjl]
    cases ob with
    | cells t cs =>
      obtain ⟨g, us, k1, k2, k3, k4⟩ := hro
      exact ⟨g, us, g1 _ _ hjl k1, hcol g k2 (Array.getElem?_eq_some_iff.1 k3).1, k3, RSL.unrn (m := fun j => ids.getD j 0) (k := ids.length) c1 g1 cs us (by simpa [Ob.inn] using hin) k4⟩
    | vec n e sz nl xs =>
      obtain ⟨hd, us, k1, k2, k3, k4, k5⟩ := hro
      refine ⟨hd, us, g1 _ _ hjl k1, k2, RF.mono (keepI c1) _ _ _ k3, k4, fun g hg => hcol g (k5 g hg) ?_⟩
      rcases k2.2 with ⟨rfl, _⟩ | ⟨g', c, cur, rfl, _, hh, _⟩
      · simp [Value.ownBlock] at hg
      · simp [Value.ownBlock] at hg; subst hg; exact (Array.getElem?_eq_some_iff.1 hh).1
    | fro n sz nl xs =>
      obtain ⟨hd, k1, k2⟩ := hro
      exact ⟨hd, g1 _ _ hjl k1, RP.mono (keepI c1) _ _ k2⟩
    | gone => trivial
    | row t n xs =>
      obtain ⟨g, us, vs, k1, k2, k3, k4, k5⟩ := hro
      exact ⟨g, us, vs, g1 _ _ hjl k1, hcol g k2 (Array.getElem?_eq_some_iff.1 k3).1, k3, k4, RL.mono (keepI c1) _ _ k5⟩
    | loop env ps asg body s pend =>
      obtain ⟨g, us, fn, D, k1, k2, k3, k4⟩ := hro
      exact ⟨g, us, fn, D, g1 _ _ hjl k1, hcol g k2 (Array.getElem?_eq_some_iff.1 k3).1, k3, RTL.unrn (m := fun j => ids.getD j 0) (k := ids.length) c1 g1 env us (by simpa [Ob.inn] using hin) k4⟩
    | map es =>
      obtain ⟨g, es', c, k1, k2, k3, k4, k5, k6⟩ := hro
      exact ⟨g, es', c, g1 _ _ hjl k1, hcol g k2 (Array.getElem?_eq_some_iff.1 k3).1, k3, RM.mono (keepI c1) _ _ k4, k5, k6⟩
  refine ⟨χc, Gc, hargs', hobs, fun o ho' => g3 o (by omega), g2, ?_⟩
  intro r v st' χ1 G1 w' hr hst1 hfr hlen hgle hnone
  rw [hol] at hlen hgle
  generalize hχ' : (fun b => if b < w.heap.size then (match χ b with | .own o => if o ∈ ids then tr (backN ids st.length) (χ1 b) else .own o | c => c) else tr (backN ids st.length) (χ1 b)) = χ'
  generalize hG' : (fun o => if o ∈ ids then G1 (ixOf ids o) else if st.length ≤ o then G1 (ids.length + (o - st.length)) else G o) = G'
  have d1 : ∀ b, b < w.heap.size → χ b = .imm → χ' b = .imm := fun b hb h => by rw [← hχ']; simp [hb, h]
  have d2 : ∀ b, b < w.heap.size → χ b = .other → χ' b = .other := fun b hb h => by rw [← hχ']; simp [hb, h]
  have d3 : ∀ b o, b < w.heap.size → χ b = .own o → o ∉ ids → χ' b = .own o := fun b o hb h hm => by rw [← hχ']; simp [hb, h, hm]
  have d4 : ∀ b, χ1 b = .imm → χ' b = .imm := fun b h => by
    rw [← hχ']
    simp only
    split
    · rename_i hb
      cases hc : χ b with
      | imm => rfl
      | other => have := (hfr.other b hb (c4 b hb hc)).1; rw [h] at this; cases this
      | mrk => have := (hfr.other b hb (c5 b hb hc)).1; rw [h] at this; cases this
      | own o =>
        simp only
        split
        · rw [h]; rfl
        · rename_i hm; have := (hfr.other b hb (c3 b o hb hc hm)).1; rw [h] at this; cases this
    · rw [h]; rfl
  have d5 : ∀ b j, χ1 b = .own j → χ' b = .own (backN ids st.length j) := fun b j h => by
    rw [← hχ']
    simp only
    split
    · rename_i hb
      cases hc : χ b with
      | imm => have := (hfr.imm b hb (c1 b hb hc)).1; rw [h] at this; cases this
      | other => have := (hfr.other b hb (c4 b hb hc)).1; rw [h] at this; cases this
      | mrk => have := (hfr.other b hb (c5 b hb hc)).1; rw [h] at this; cases this
      | own o =>
        simp only
        split
        · rw [h]; rfl
        · rename_i hm; have := (hfr.other b hb (c3 b o hb hc hm)).1; rw [h] at this; cases this
    · rw [h]; rfl
  have d6 : ∀ b, b < w.heap.size → χ b = .mrk → χ' b = .mrk := fun b hb h => by rw [← hχ']; simp [hb, h]
  have e1 : ∀ o, o ∈ ids → G' o = G1 (ixOf ids o) := fun o hm => by rw [← hG']; simp [hm]
  have e2 : ∀ o, o ∉ ids → o < st.length → G' o = G o := fun o hm hlt => by rw [← hG']; simp [hm]; omega
  have e3 : ∀ o, st.length ≤ o → G' o = G1 (ids.length + (o - st.length)) := fun o hle => by
    have hm : o ∉ ids := fun hm => by have := hi o hm; omega
    rw [← hG']; simp [hm, hle]
  have e4 : ∀ j h, G1 j = some h → G' (backN ids st.length j) = some h := fun j h hj => by
    unfold backN
    split
    · rename_i hjl
      rw [e1 _ (getD_mem hjl), ixOf_getD hn hjl]; exact hj
    · rw [e3 _ (by omega), show ids.length + (st.length + (j - ids.length) - st.length) = j by omega]; exact hj
  have hhp : ∀ b, b < w.heap.size → (∀ o, χ b = .own o → o ∉ ids) → w'.heap[b]? = w.heap[b]? := fun b hb hno => by
    cases hc : χ b with
    | imm => exact (hfr.imm b hb (c1 b hb hc)).2
    | other => exact (hfr.other b hb (c4 b hb hc)).2
    | mrk => exact (hfr.other b hb (c5 b hb hc)).2
    | own o => exact (hfr.other b hb (c3 b o hb hc (hno o hc))).2
  have hk : Keep χ w χ' w' := fun b hb hi' => ⟨d1 b hb hi', hhp b hb (fun o ho' => by rw [hi'] at ho'; cases ho')⟩
  have hgo : GGo G G' := fun o => by
    by_cases hm : o ∈ ids
    · have hlt := ixOf_lt hm
      obtain ⟨k1, k2⟩ := hgle _ hlt
      rw [g2 _ hlt, getD_ixOf hm] at k1 k2
      rw [e1 o hm]
      exact ⟨k1, k2⟩
    · by_cases hlt : o < st.length
      · rw [e2 o hm hlt]
        exact ⟨fun g hg => hg, fun n hd hh => ⟨n, hd, hh, Nat.le_refl _, fun _ => rfl⟩⟩
      · rw [hfit.2.2.2.2.2.2 o (by simpa using hlt)]
        exact ⟨fun g hg => (by cases hg), fun n hd hh => (by cases hh)⟩
  obtain ⟨p1, p2⟩ := putAll_at (backN ids st.length) ids st' st hn hi hlen
  have hbl : (backSt ids st st').length = st.length + (st'.length - ids.length) := by simp [backSt, p1]
  have hbg : ∀ o ob, (backSt ids st st')[o]? = some ob → (o ∈ ids ∧ ∃ ob1, st'[ixOf ids o]? = some ob1 ∧ ob = ob1.rn (backN ids st.length)) ∨ (o ∉ ids ∧ o < st.length ∧ st[o]? = some ob) ∨
      (st.length ≤ o ∧ ∃ ob1, st'[ids.length + (o - st.length)]? = some ob1 ∧ ob = ob1.rn (backN ids st.length)) := by
    intro o ob hob'
    unfold backSt at hob'
    by_cases hlt : o < st.length
    · rw [List.getElem?_append_left (by rw [p1]; exact hlt), p2 o] at hob'
      split at hob'
      · rename_i hm
        rw [Option.map_eq_some_iff] at hob'
        obtain ⟨ob1, k1, k2⟩ := hob'
        exact .inl ⟨hm, ob1, k1, k2.symm⟩
      · rename_i hm
        exact .inr (.inl ⟨hm, hlt, hob'⟩)
    · rw [List.getElem?_append_right (by rw [p1]; omega), p1, List.getElem?_map, List.getElem?_drop, Option.map_eq_some_iff] at hob'
      obtain ⟨ob1, k1, k2⟩ := hob'
      exact .inr (.inr ⟨by omega, ob1, k1, k2.symm⟩)
  have hro : ∀ (j : Nat) ob, st'[j]? = some ob → RO χ' w' G' (backN ids st.length j) (ob.rn (backN ids st.length)) := by
    intro j ob hj
    have := hst1 j ob hj
    cases ob with
    | cells t cs =>
      obtain ⟨g, us, k1, k2, k3, k4⟩ := this
      exact ⟨g, us, e4 _ _ k1, d5 g j k2, k3, RSL.rn (fun b _ h => d4 b h) e4 cs us k4⟩
    | vec n e sz nl xs =>
      obtain ⟨hd, us, k1, k2, k3, k4, k5⟩ := this
      exact ⟨hd, us, e4 _ _ k1, k2, RF.mono (keepI (fun b _ h => d4 b h)) _ _ _ k3, k4, fun g hg => d5 g j (k5 g hg)⟩
    | fro n sz nl xs =>
      obtain ⟨hd, k1, k2⟩ := this
      exact ⟨hd, e4 _ _ k1, RP.mono (keepI (fun b _ h => d4 b h)) _ _ k2⟩
    | gone => trivial
    | row t n xs =>
      obtain ⟨g, us, vs, k1, k2, k3, k4, k5⟩ := this
      exact ⟨g, us, vs, e4 _ _ k1, d5 g j k2, k3, k4, RL.mono (keepI (fun b _ h => d4 b h)) _ _ k5⟩
    | loop env ps asg body s pend =>
      obtain ⟨g, us, fn, D, k1, k2, k3, k4⟩ := this
      exact ⟨g, us, fn, D, e4 _ _ k1, d5 g j k2, k3, RTL.rn (fun b _ h => d4 b h) e4 env us k4⟩
    | map es =>
      obtain ⟨g, es', c, k1, k2, k3, k4, k5, k6⟩ := this
      exact ⟨g, es', c, e4 _ _ k1, d5 g j k2, k3, RM.mono (keepI (fun b _ h => d4 b h)) _ _ k4, k5, k6⟩
  obtain ⟨f1, f2, f3, f4, f5, f6, f7⟩ := hfit
  refine ⟨χ', G', ⟨RTL.mono hk hgo _ _ f1, fun o ob hob' => ?_, ⟨hfr.os.trans f3.os, hfr.tape.trans f3.tape, hfr.output.trans f3.output, Nat.le_trans f3.size hfr.size, fun b hlt hi' => ?_, fun b hlt hi' => ?_⟩, f4.mono hk hgo (fun b hb hm => ⟨d6 b hb hm, hhp b hb (fun o ho' => by rw [hm] at ho'; cases ho')⟩), ?_, fun o ho' => ?_, fun o ho' => ?_⟩,
    RS.rn (fun b _ h => d4 b h) e4 r v hr, hgo⟩
  · rcases hbg o ob hob' with ⟨hm, ob1, k1, rfl⟩ | ⟨hm, hlt, k1⟩ | ⟨hle, ob1, k1, rfl⟩
    · have := hro _ _ k1
      rwa [show backN ids st.length (ixOf ids o) = o from by unfold backN; rw [if_pos (ixOf_lt hm), getD_ixOf hm]] at this
    · exact RO.mono hk hgo (e2 o hm hlt) (fun b hb hc => ⟨d3 b o hb hc hm, hhp b hb (fun o' ho' => by rw [hc] at ho'; injection ho' with ho'; rw [← ho']; exact hm)⟩) (f2 o ob k1)
    · have := hro _ _ k1
      rwa [show backN ids st.length (ids.length + (o - st.length)) = o from by unfold backN; rw [if_neg (by omega)]; omega] at this
  · obtain ⟨k1, k2⟩ := f3.imm b hlt hi'
    have hb := Nat.lt_of_lt_of_le hlt f3.size
    exact ⟨d1 b hb k1, (hhp b hb (fun o ho' => by rw [k1] at ho'; cases ho')).trans k2⟩
  · obtain ⟨k1, k2⟩ := f3.other b hlt hi'
    have hb := Nat.lt_of_lt_of_le hlt f3.size
    exact ⟨d2 b hb k1, (hhp b hb (fun o ho' => by rw [k1] at ho'; cases ho')).trans k2⟩
  · simp only at f5 ⊢; rw [hbl]; omega
  · obtain ⟨k1, k2⟩ := f6 o ho'
    refine ⟨fun g hg => (hgo o).1 g (k1 g hg), fun n hd hh => ?_⟩
    obtain ⟨m, hd', q1, q2, q3⟩ := k2 n hd hh
    obtain ⟨m', hd'', q4, q5, q6⟩ := (hgo o).2 m hd' q1
    exact ⟨m', hd'', q4, Nat.le_trans q2 q5, fun e => by rw [q6 (by omega), q3 (by omega)]⟩
  · simp only at ho'
    rw [hbl] at ho'
    rw [e3 o (by omega)]
    exact hnone _ (by omega)

theorem call_obj {f : FuncId} {args args' : List SV} {vs : List Value} {ids : List Nat} {obs : List Ob} {Q : Res} (hfit : Fits E χ G ⟨env, st⟩ a w) (hargs : RTL χ w G args vs)
    (hn : ids.Nodup) (hi : ∀ i ∈ ids, i < st.length) (ha : args = SV.rnL (fun j => ids.getD j 0) args') (hb : SV.inL ids.length args' = true)
    (ho : ids.map (fun i => st.getD i .gone) = obs.map (Ob.rn fun j => ids.getD j 0)) (hob : obs.all (Ob.inn ids.length) = true)
    (h : CallOk P f args' obs Q) :
    RunsTo P f vs.toArray w fun e w' => ∃ r v st', Q r st' ∧ e = .returned v ∧ Rel2 E ⟨env, backSt ids st st'⟩ a w' (r.rn (backN ids st.length)) v := by
  obtain ⟨χc, Gc, h1, h2, h3, _, h4⟩ := obj_step hfit hargs hn hi ha hb ho hob
  refine (h χc Gc w vs h1 h2 h3).mono ?_
  rintro e w' ⟨r, v, st', χ1, G1, hQ, rfl, hr, hst1, hfr, hlen, hgle, hnone⟩
  obtain ⟨χ', G', q1, q2, _⟩ := h4 r v st' χ1 G1 w' hr hst1 hfr hlen hgle hnone
  exact ⟨r, v, st', hQ, rfl, q1.two q2⟩

theorem callIn_ok {f : FuncId} {args : List SV} {vs : List Value} {q : Option (SV → Prop)} {R : Res} (hfit : Fits E χ G ⟨env, st⟩ a w) (hargs : RTL χ w G args vs) (h : CallIn P f args st q R) :
    RunsTo P f vs.toArray w fun e w' => ∃ r v st', R r st' ∧ e = .returned v ∧ Rel2 E ⟨env, st'⟩ a w' r v := by
  cases h with
  | draw h hn hf k =>
    exact (call_pure hfit hargs h hn hf).mono fun e w' ⟨r, v, hq, he, hr⟩ => ⟨r, v, st, k r hq, he, hr⟩
  | pure q h hn hf k =>
    exact (call_pure hfit hargs h hn hf).mono fun e w' ⟨r, v, hq, he, hr⟩ => ⟨r, v, st, k r hq, he, hr⟩
  | obj ids args' obs Q hn hi ha hb ho hob h k =>
    exact (call_obj hfit hargs hn hi ha hb ho hob h).mono fun e w' ⟨r, v, st', hq, he, hr⟩ => ⟨_, v, _, k r st' hq, he, hr⟩

end
end Go.Sy
