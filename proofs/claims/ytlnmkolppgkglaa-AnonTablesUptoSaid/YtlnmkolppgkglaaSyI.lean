/- The walk's operations are what the model does: values that go where nobody writes, new rows. -/
import Derived.Test.YtlnmkolppgkglaaSyH
import Derived.Great.BuildSlice
import Derived.Laws.MakeOwn
import Derived.Lib.ConvBytes
set_option linter.all false
set_option maxHeartbeats 4000000
namespace Go.Sy
open Go.RowKit

theorem look_set {st : List Ob} {o n e sz : Nat} {nl : Bool} {xs : List PV} (h : st[o]? = some (.vec n e sz nl xs)) (o' : Nat) : look (st.set o (.fro n sz nl xs)) o' = look st o' := by
  have hlt := (List.getElem?_eq_some_iff.1 h).1
  by_cases he : o = o'
  · subst he
    have h1 : look st o = some (n, sz, nl, xs) := by unfold look; rw [h]
    have h2 : look (st.set o (.fro n sz nl xs)) o = some (n, sz, nl, xs) := by unfold look; rw [List.getElem?_set_self hlt]
    rw [h1, h2]
  · unfold look
    rw [List.getElem?_set_ne he]

theorem RL.one {χ : Nat → Color} {w : World} : ∀ {cs : List PV} {us : List Value}, RL χ w cs us → ∀ y ∈ us, y.oneCell' = true
  | [], us, h, y, hy => by simp [RL] at h; subst h; simp at hy
  | c :: cs, us, ⟨u, r, h1, h2, h3, h4⟩, y, hy => by
    subst h1
    rcases List.mem_cons.1 hy with h | h
    · subst h; exact h2
    · exact RL.one h4 y h
theorem RSL.one {χ : Nat → Color} {w : World} {G : Gh} : ∀ {cs : List SV} {us : List Value}, RSL χ w G cs us → ∀ y ∈ us, y.oneCell' = true
  | [], us, h, y, hy => by simp [RSL] at h; subst h; simp at hy
  | c :: cs, us, ⟨u, r, h1, h2, h3, h4⟩, y, hy => by
    subst h1
    rcases List.mem_cons.1 hy with h | h
    · subst h; exact h2
    · exact RSL.one h4 y h

mutual
theorem look_frz : ∀ (s : SV) (st : List Ob) (o' : Nat), look (s.frz st) o' = look st o'
  | .vref o n, st, o' => by
    unfold SV.frz
    split
    · rename_i m e sz nl xs h
      split
      · exact look_set h o'
      · rfl
    · rfl
  | .agg cs, st, o' => by unfold SV.frz; exact look_frzL cs st o'
  | .pure _, st, o' => rfl
  | .ptr _ _, st, o' => rfl
  | .eptr _ _ _ _ _, st, o' => rfl
  | .ipt _, st, o' => rfl
  | .mref _, st, o' => rfl
  | .tup _, st, o' => rfl
  | .clo _ _, st, o' => rfl
  | .dead, st, o' => rfl
  | .lit _ _, st, o' => rfl
  | .sref _ _ _, st, o' => rfl
  | .yld _, st, o' => rfl
  | .bnd _ _, st, o' => rfl
theorem look_frzL : ∀ (cs : List SV) (st : List Ob) (o' : Nat), look (SV.frzL cs st) o' = look st o'
  | [], st, o' => rfl
  | c :: cs, st, o' => by unfold SV.frzL; rw [look_frzL cs, look_frz c]
end
mutual
theorem pv_look {st st' : List Ob} (h : ∀ o, look st' o = look st o) : ∀ (s : SV), s.pv st' = s.pv st
  | .vref o n => by unfold SV.pv; rw [h]
  | .agg cs => by unfold SV.pv; rw [pvL_look h cs]
  | .pure _ => rfl
  | .ptr _ _ => rfl
  | .eptr _ _ _ _ _ => rfl
  | .ipt _ => rfl
  | .mref _ => rfl
  | .tup _ => rfl
  | .clo _ _ => rfl
  | .dead => rfl
  | .lit _ _ => rfl
  | .sref _ _ _ => rfl
  | .yld _ => rfl
  | .bnd _ _ => rfl
theorem pvL_look {st st' : List Ob} (h : ∀ o, look st' o = look st o) : ∀ (cs : List SV), SV.pvL st' cs = SV.pvL st cs
  | [] => rfl
  | c :: cs => by unfold SV.pvL; rw [pv_look h c, pvL_look h cs]
end

def ImmLe (χ χ' : Nat → Color) : Prop := ∀ b, χ b = .imm → χ' b = .imm
theorem ImmLe.refl (χ : Nat → Color) : ImmLe χ χ := fun _ h => h
theorem ImmLe.trans {χ χ' χ'' : Nat → Color} (h : ImmLe χ χ') (h' : ImmLe χ' χ'') : ImmLe χ χ'' := fun b hb => h' b (h b hb)
theorem ImmLe.keep {χ χ' : Nat → Color} (h : ImmLe χ χ') (w : World) : Keep χ w χ' w := fun b _ hi => ⟨h b hi, rfl⟩

section
variable {P : Program} {E : Ent} {G : Gh} {env : List SV} {a : Act} {w : World}

mutual
theorem pv_frz : ∀ (s : SV) {χ : Nat → Color} {st : List Ob} {p : PV} {v : Value}, Fits E χ G ⟨env, st⟩ a w → RS χ w G s v → s.pv st = some p →
    ∃ χ', Fits E χ' G ⟨env, s.frz st⟩ a w ∧ ImmLe χ χ' ∧ RP χ' w p v
  | .pure q, χ, st, p, v, hf, hs, hp => by
    unfold SV.pv at hp
    injection hp with hp
    subst hp
    exact ⟨χ, hf, ImmLe.refl _, hs⟩
  | .vref o n, χ, st, p, v, hf, hs, hp => by
    unfold SV.pv look at hp
    obtain ⟨_, m, hd, hG, hle, hv⟩ := hs
    cases ho : st[o]? with
    | none => simp [ho] at hp
    | some ob =>
      cases ob with
      | cells t cs => simp [ho] at hp
      | gone => simp [ho] at hp
      | row t n xs => simp [ho] at hp
      | loop env ps asg body s pend => simp [ho] at hp
      | map es => simp [ho] at hp
      | vec m' e sz nl xs =>
        simp only [ho, Option.ite_none_right_eq_some, Option.some.injEq] at hp
        obtain ⟨rfl, rfl⟩ := hp
        obtain ⟨χ', hd', h1, h2, h3, h4⟩ := hf.freeze ho
        rw [hG] at h3
        injection h3 with h3
        injection h3 with e1 e2
        subst e1 e2
        have := hv rfl
        subst this
        refine ⟨χ', ?_, h2, h4⟩
        unfold SV.frz
        simpa [ho] using h1
      | fro m' sz nl xs =>
        simp only [ho, Option.ite_none_right_eq_some, Option.some.injEq] at hp
        obtain ⟨rfl, rfl⟩ := hp
        obtain ⟨hd', h3, h4⟩ := hf.2.1 o _ ho
        rw [hG] at h3
        injection h3 with h3
        injection h3 with e1 e2
        subst e1 e2
        have := hv rfl
        subst this
        refine ⟨χ, ?_, ImmLe.refl _, h4⟩
        unfold SV.frz
        simpa [ho] using hf
  | .agg cs, χ, st, p, v, hf, hs, hp => by
    unfold SV.pv at hp
    split at hp
    · rename_i ps hps
      injection hp with hp
      subst hp
      obtain ⟨us, rfl, hl⟩ := hs
      obtain ⟨χ', h1, h2, h3⟩ := pvL_frz cs hf hl hps
      exact ⟨χ', by unfold SV.frz; exact h1, h2, us, rfl, h3⟩
    · cases hp
  | .ptr _ _, χ, st, p, v, hf, hs, hp => by simp [SV.pv] at hp
  | .eptr _ _ _ _ _, χ, st, p, v, hf, hs, hp => by simp [SV.pv] at hp
  | .ipt _, χ, st, p, v, hf, hs, hp => by simp [SV.pv] at hp
  | .mref _, χ, st, p, v, hf, hs, hp => by simp [SV.pv] at hp
  | .tup _, χ, st, p, v, hf, hs, hp => by simp [SV.pv] at hp
  | .clo _ _, χ, st, p, v, hf, hs, hp => by simp [SV.pv] at hp
  | .dead, χ, st, p, v, hf, hs, hp => by simp [SV.pv] at hp
  | .lit _ _, χ, st, p, v, hf, hs, hp => by simp [SV.pv] at hp
  | .sref _ _ _, χ, st, p, v, hf, hs, hp => by simp [SV.pv] at hp
  | .yld _, χ, st, p, v, hf, hs, hp => by simp [SV.pv] at hp
  | .bnd _ _, χ, st, p, v, hf, hs, hp => by simp [SV.pv] at hp
theorem pvL_frz : ∀ (cs : List SV) {χ : Nat → Color} {st : List Ob} {ps : List PV} {us : List Value}, Fits E χ G ⟨env, st⟩ a w → RSL χ w G cs us → SV.pvL st cs = some ps →
    ∃ χ', Fits E χ' G ⟨env, SV.frzL cs st⟩ a w ∧ ImmLe χ χ' ∧ RL χ' w ps us
  | [], χ, st, ps, us, hf, hs, hp => by
    unfold SV.pvL at hp
    injection hp with hp
    subst hp
    exact ⟨χ, hf, ImmLe.refl _, hs⟩
  | c :: cs, χ, st, ps, us, hf, hs, hp => by
    obtain ⟨u, r, rfl, h1, h2, h3⟩ := hs
    unfold SV.pvL at hp
    split at hp
    · rename_i p ps' e1 e2
      injection hp with hp
      subst hp
      obtain ⟨χ1, g1, g2, g3⟩ := pv_frz c hf h2 e1
      obtain ⟨χ2, k1, k2, k3⟩ := pvL_frz cs g1 (RSL.mono (g2.keep w) (GGo.refl G) _ _ h3) (by rw [pvL_look (look_frz c st)]; exact e2)
      exact ⟨χ2, by unfold SV.frzL; exact k1, g2.trans k2, u, r, rfl, h1, RP.mono (k2.keep w) _ _ g3, k3⟩
    · cases hp
end

theorem pure_ok {qt : Bool} {χ : Nat → Color} {st : List Ob} {s : SV} {v : Value} {K : PV → List Ob → Prop} (hf : Fits E χ G ⟨env, st⟩ a w) (hs : RS χ w G s v) (h : vcPure qt s st K) :
    ∃ χ' p st', K p st' ∧ Fits E χ' G ⟨env, st'⟩ a w ∧ ImmLe χ χ' ∧ RP χ' w p v := by
  unfold vcPure at h
  split at h
  · split at h
    · exact ⟨χ, _, _, h, hf, ImmLe.refl _, hs⟩
    · exact h.elim
  · split at h
    · rename_i p hp
      obtain ⟨χ', h1, h2, h3⟩ := pv_frz s hf hs hp
      exact ⟨χ', p, _, h, h1, h2, h3⟩
    · exact h.elim

theorem parts_ok {qt : Bool} {e : TypeId} {ρ : Operand → SV} (hρ : ∀ {χ : Nat → Color} {st : List Ob}, Fits E χ G ⟨env, st⟩ a w → ∀ x, RS χ w G (ρ x) (a.eval x)) : ∀ (l : List (Nat × Operand)) (n : Nat) {χ : Nat → Color} {st : List Ob} {K : List PV → List Ob → Prop},
    Fits E χ G ⟨env, st⟩ a w → vcParts P qt e (l.map fun (i, x) => (i, ρ x)) n st K →
    ∃ χ' ps st' us, K ps st' ∧ Fits E χ' G ⟨env, st'⟩ a w ∧ ImmLe χ χ' ∧ RF χ' w (szOf P e) ps us ∧ ps.length = l.length ∧
      (l.map fun (i, x) => (i, a.eval x)) = ((l.map fun x => a.eval x.2).zipIdx n).map (fun x => (x.2, x.1)) ∧ (∀ v ∈ l.map (fun x => a.eval x.2), v.cells.size = szOf P e) ∧
      us = (l.map fun x => a.eval x.2).flatMap fun v => v.cells.toList
  | [], n, χ, st, K, hf, h => ⟨χ, [], st, [], h, hf, ImmLe.refl _, rfl, rfl, rfl, by simp, rfl⟩
  | (i, x) :: l, n, χ, st, K, hf, h => by
    simp only [List.map_cons, vcParts, must_iff, beq_iff_eq] at h
    obtain ⟨rfl, h⟩ := h
    obtain ⟨χ1, p, st1, h, hf1, hi1, hp⟩ := pure_ok hf (RS_nilAt (hρ hf x)) h
    simp only [must_iff, Bool.and_eq_true, beq_iff_eq] at h
    obtain ⟨⟨ho, hsz⟩, h⟩ := h
    obtain ⟨χ2, ps, st2, us, hK, hf2, hi2, hr, hl, hz, hall, hus⟩ := parts_ok hρ l (i + 1) hf1 h
    have hsz' : (a.eval x).cells.size = szOf P e := by rw [← hsz, hp.cells_len]
    have hone : ∀ y ∈ (a.eval x).cells.toList, y.oneCell' = true := (RL_cells ho hp).one
    refine ⟨χ2, p :: ps, st2, (a.eval x).cells.toList ++ us, hK, hf2, hi1.trans hi2, ⟨_, us, rfl, hsz', hone, RP.mono (hi2.keep w) _ _ hp, hr⟩, by simp [hl], ?_, ?_, ?_⟩
    · simp [hz]
    · intro v hv
      rcases List.mem_cons.1 hv with h | h
      · subst h; exact hsz'
      · exact hall v h
    · simp [hus]

end
end Go.Sy
