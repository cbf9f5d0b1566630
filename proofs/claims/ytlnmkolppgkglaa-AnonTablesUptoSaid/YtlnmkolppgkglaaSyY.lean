/- States told otherwise at a barrier: objects dropped, versions told anew, a row of one's own told as an array; nothing in a variable as a row that is empty yet. -/
import Derived.Test.YtlnmkolppgkglaaSyX
set_option linter.all false
set_option maxHeartbeats 4000000
namespace Go.Sy
open Go.RowKit

theorem Rel.drop {E : Ent} {env : List SV} {st : List Ob} {a : Act} {w : World} (o : Nat) (h : Rel E ⟨env, st⟩ a w) : Rel E ⟨env, st.set o .gone⟩ a w := by
  obtain ⟨χ, G, h1, h2, h3, h4, h5, h6, h7⟩ := h
  refine ⟨χ, G, h1, fun o' ob ho => ?_, h3, h4, by simpa using h5, h6, fun o' ho => h7 o' (by simpa using ho)⟩
  simp only [List.getElem?_set] at ho
  split at ho
  · split at ho
    · cases ho; exact trivial
    · cases ho
  · exact h2 o' ob ho

theorem rest_drop {P : Program} {k : Kx} {c : Code} {env : List SV} {st : List Ob} {Q : Exit → St → Prop} (o : Nat) (h : Rest P k c ⟨env, st.set o .gone⟩ Q) : Rest P k c ⟨env, st⟩ Q := by
  obtain ⟨h⟩ := h
  exact ⟨fun E a w hE hr => h E a w hE (hr.drop o)⟩

/-- Versions told anew. -/
theorem rest_norm {P : Program} {k : Kx} {c : Code} {σ : St} {Q : Exit → St → Prop} (n : Nat) (f : Nat → Nat) (sl : List (Nat × SV)) (st : List Ob) (hn : σ.env.length = n) (hl : holds f σ.env sl) (hst : σ.st.take st.length = upSt f 0 st)
    (hi : k.n ≤ st.length ∧ SV.inL st.length (sl.map (·.2)) = true ∧ st.all (Ob.inn st.length) = true) (hf : ∀ o, o < k.n → f o = 0) (h : Rest P k c ⟨mkEnv n sl, st⟩ Q) (hdi : SV.inL k.n k.dss = true := by rfl) : Rest P k c σ Q := by
  obtain ⟨h⟩ := h
  exact ⟨fun E a w hE hr => h E a w hE (weaken f hE hr hn hl hst hi.1 hf hdi hi.2.1 hi.2.2)⟩

theorem Rel.row {E : Ent} {env : List SV} {st : List Ob} {n e : Nat} {xs : List PV} {a : Act} {w : World} (h : Rel E ⟨env, st ++ [.vec n e 1 false xs]⟩ a w) (d : Nat) (hd : env.getD d .dead = .vref st.length n)
    (l : List (Nat × SV)) (hl : holds (fun _ => 0) env l) (hin : SV.inL st.length (l.map (·.2)) = true) (hst : st.all (Ob.inn st.length) = true) (hk : E.k.n ≤ st.length) (hdi : SV.inL E.k.n E.k.dss = true) (hx : xs.flatMap PV.cells = xs) :
    Rel E ⟨(mkEnv env.length l).set d (.sref st.length 0 xs.length), st ++ [.row e xs.length xs]⟩ a w := by
  obtain ⟨χ, G, h1, h2, h3, h4, h5, h6, h7⟩ := h
  have hlast := h2 st.length (.vec n e 1 false xs) (by simp)
  obtain ⟨hd', us, g1, g2, g3, g4, g5⟩ := hlast
  have hu := h1.get d
  rw [hd] at hu
  obtain ⟨_, m, hd2, e1, _, e3⟩ := hu
  rw [g1] at e1
  cases e1
  have hval := e3 rfl
  rcases g2.2 with ⟨rfl, _⟩ | ⟨g, cap, cur, rfl, _, hg, hnc, hm, hcs, htk⟩
  · exact absurd (g4.2 rfl) (by simp)
  have hul : us.length = xs.length := by rw [g3.len, Nat.mul_one]
  have hus : RL χ w xs us := by have := RF_flat g3; rwa [hx] at this
  have hcur : cur.toList = us ++ cur.toList.drop (xs.length * 1) := by rw [← htk, List.take_append_drop]
  have hk1 : ∀ o, o < E.k.n → (fun _ : Nat => 0) o = 0 := fun _ _ => rfl
  have hcol : χ g = .own st.length := g5 g rfl
  -- the objects ahead alone
  obtain ⟨G1, hG1⟩ : ∃ G1, G1 = dn (fun _ => 0) st.length G := ⟨_, rfl⟩
  have env1 : RTL χ w G1 (mkEnv env.length l) a.tmps.toList := by rw [hG1]; exact mkEnv_ok h1 l hl hin
  have up0 : ∀ ob : Ob, ∀ o, ob.up (fun _ => 0) o = ob := fun ob o => by
    cases ob <;> simp [Ob.up, upL_zero]
  have obs1 : ∀ o ob, st[o]? = some ob → RO χ w G1 o ob := fun o ob ho => by
    have hlt : o < st.length := (List.getElem?_eq_some_iff.1 ho).1
    have hin' : ob.inn st.length = true := by
      rw [List.all_eq_true] at hst
      exact hst ob (List.mem_of_getElem? ho)
    rw [hG1]
    refine RO.dn hlt hin' ?_
    rw [up0]
    exact h2 o ob (by rw [List.getElem?_append_left hlt]; exact ho)
  have gm : G1 st.length = none := by rw [hG1]; simp [dn]
  have go : GGo G1 (upF G1 st.length (some (.fix g))) := fun o' => by
    by_cases e : o' = st.length
    · subst e; rw [gm]; exact ⟨fun g hg => (by cases hg), fun n hd hh => (by cases hh)⟩
    · rw [upF_ne _ _ e]; exact ⟨fun g hg => hg, fun n hd hh => ⟨n, hd, hh, Nat.le_refl _, fun _ => rfl⟩⟩
  have hkp : Keep χ w χ w := Keep.refl χ w
  refine ⟨χ, upF G1 st.length (some (.fix g)), ?_, ?_, h3, ?_, by simp; omega, ?_, ?_⟩
  · exact (RTL_set_any (RTL.mono hkp go _ _ env1) d (by rw [hval]; exact ⟨g, cap, upF_same _ _ _, rfl, hnc, hm⟩))
  · intro o ob ho
    by_cases hlt : o < st.length
    · rw [List.getElem?_append_left hlt] at ho
      exact RO.mono hkp go (upF_ne _ _ (by omega)) (fun b _ h => ⟨h, rfl⟩) (obs1 o ob ho)
    · have ho' : o = st.length := by
        have := (List.getElem?_eq_some_iff.1 ho).1
        simp at this; omega
      subst ho'
      simp only [List.getElem?_append_right (Nat.le_refl _), Nat.sub_self, List.getElem?_cons_zero, Option.some.injEq] at ho
      subst ho
      refine ⟨g, us, cur.toList.drop (xs.length * 1), upF_same _ _ _, hcol, ?_, by simp [hul], by simpa using hus⟩
      rw [hg, ← hcur]
  · have := h4.dn (f := fun _ => 0) (m := st.length) (fun _ _ => rfl) hdi hk
    rw [← hG1] at this
    exact this.mono hkp go (fun b _ h => ⟨h, rfl⟩)
  · intro o ho
    obtain ⟨k1, k2⟩ := h6 o ho
    have hne : o ≠ st.length := by omega
    have e1 : upF G1 st.length (some (.fix g)) o = G o ∨ (∃ n h, G o = some (.ver n h) ∧ upF G1 st.length (some (.fix g)) o = some (.ver n h)) := by
      rw [upF_ne _ _ hne, hG1]
      have hlt : o < st.length := by omega
      cases hGo : G o with
      | none => exact .inl (by simp [dn, hGo])
      | some x => cases x with
        | fix g => exact .inl (by simp [dn, hGo, hlt])
        | ver n h => exact .inr ⟨n, h, rfl, by simp [dn, hGo, hlt]⟩
    refine ⟨fun g' hg' => ?_, fun n' hd' hh => ?_⟩
    · have := k1 g' hg'
      rcases e1 with e1 | ⟨n, h, e1, e2⟩
      · rw [e1]; exact this
      · rw [this] at e1; cases e1
    · obtain ⟨m', h', f1, f2, f3⟩ := k2 n' hd' hh
      rcases e1 with e1 | ⟨n, h, e1, e2⟩
      · exact ⟨m', h', by rw [e1]; exact f1, f2, f3⟩
      · rw [f1] at e1; cases e1; exact ⟨m', h', e2, f2, f3⟩
  · intro o ho
    simp only [List.length_append, List.length_cons, List.length_nil] at ho
    rw [upF_ne _ _ (by omega), hG1]
    simp [dn]
    intro h
    omega

/-- A row of one's own told as an array, of which a slot holds the slice. -/
theorem rest_row {P : Program} {k : Kx} {c : Code} {env : List SV} {st : List Ob} {n e : Nat} {xs : List PV} {Q : Exit → St → Prop} (d : Nat) (l : List (Nat × SV)) (hd : env.getD d .dead = .vref st.length n)
    (hl : holds (fun _ => 0) env l) (hin : SV.inL st.length (l.map (·.2)) = true) (hst : st.all (Ob.inn st.length) = true) (hk : k.n ≤ st.length) (hx : xs.flatMap PV.cells = xs)
    (h : Rest P k c ⟨(mkEnv env.length l).set d (.sref st.length 0 xs.length), st ++ [.row e xs.length xs]⟩ Q) (hdi : SV.inL k.n k.dss = true := by rfl) : Rest P k c ⟨env, st ++ [.vec n e 1 false xs]⟩ Q := by
  obtain ⟨h⟩ := h
  refine ⟨fun E a w hE hr => h E a w hE ?_⟩
  exact hr.row d hd l hl hin hst (by rw [hE]; exact hk) (by rw [hE]; exact hdi) hx

theorem Rel.ghostc {E : Ent} {env : List SV} {st : List Ob} {a : Act} {w : World} (h : Rel E ⟨env, st⟩ a w) (o : Nat) {t : TypeId} {sz0 : Nat} (e sz : Nat) (ho : st[o]? = some (.cells t [.pure (.list sz0 true [])])) :
    Rel E ⟨env, st.set o (.cells t [.vref st.length 0]) ++ [.vec 0 e sz true []]⟩ a w := by
  obtain ⟨χ, G, hf⟩ := h
  have hf : Fits E χ G ⟨env, st⟩ a w := hf
  have hlt : o < st.length := (List.getElem?_eq_some_iff.1 ho).1
  obtain ⟨χ', g1, g2⟩ := hf.newVec (e := e) (sz := sz) (w' := w) (hd := .slice none 0 0) (nl := true) (xs := []) (us := []) rfl rfl rfl (Nat.le_refl _) (fun _ _ => rfl) ⟨by simp, .inl ⟨rfl, rfl⟩⟩ rfl (by simp) (fun g hg => by cases hg)
  have ho1 : (st ++ [Ob.vec 0 e sz true []])[o]? = some (.cells t [.pure (.list sz0 true [])]) := by rw [List.getElem?_append_left hlt]; exact ho
  obtain ⟨g, us, m1, m2, m3, u, r, rfl, m4, m5, m6⟩ := g1.2.1 o _ ho1
  obtain ⟨A, c, us', h1, h2, h3, h4, h5, h6, h7⟩ := m5
  have hA : A = none := h5.1 rfl
  have hc := h4 hA
  subst hA hc
  have e1 : st.set o (.cells t [.vref st.length 0]) ++ [Ob.vec 0 e sz true []] = (st ++ [Ob.vec 0 e sz true []]).set o (.cells t [.vref st.length 0]) := by rw [List.set_append_left _ _ hlt]
  rw [e1]
  exact (g1.set (ob := .cells t [.vref st.length 0]) (w' := w) (χ' := χ') (G' := _) (by simp; omega) rfl rfl rfl (Nat.le_refl _) (fun b hb hne => ⟨rfl, rfl⟩) (fun _ _ => rfl) ⟨fun g hg => hg, fun n hd hh => ⟨n, hd, hh, Nat.le_refl _, fun _ => rfl⟩⟩ ⟨g, _, m1, m2, m3, u, r, rfl, m4, by rw [h1]; exact g2, m6⟩).rel

/-- Nothing in a variable, as a row that is empty yet. -/
theorem hand_ghostc {P : Program} {k : Kx} {c : Code} {env : List SV} {st : List Ob} {Q : Exit → St → Prop} (o : Nat) {t : TypeId} {sz0 : Nat} (e sz : Nat) (ho : st[o]? = some (.cells t [.pure (.list sz0 true [])]))
    (h : Hand P k c ⟨env, st.set o (.cells t [.vref st.length 0]) ++ [.vec 0 e sz true []]⟩ Q) : Hand P k c ⟨env, st⟩ Q := by
  obtain ⟨h⟩ := h
  exact ⟨fun E a w hE hr => h E a w hE (hr.ghostc o e sz ho)⟩

mutual
theorem rn_id {m : Nat → Nat} {k : Nat} (hm : ∀ j, j < k → m j = j) : ∀ (s : SV), s.inn k = true → s.rn m = s
  | .pure _, _ => rfl
  | .ptr o j, h => by simp only [SV.inn, decide_eq_true_eq] at h; simp only [SV.rn, hm o h]
  | .vref o n, h => by simp only [SV.inn, decide_eq_true_eq] at h; simp only [SV.rn, hm o h]
  | .eptr o n sz i off, h => by simp only [SV.inn, decide_eq_true_eq] at h; simp only [SV.rn, hm o h]
  | .ipt _, _ => rfl
  | .mref o, h => by simp only [SV.inn, decide_eq_true_eq] at h; simp only [SV.rn, hm o h]
  | .agg cs, h => by simp only [SV.inn] at h; simp only [SV.rn, rnL_id hm cs h]
  | .tup cs, h => by simp only [SV.inn] at h; simp only [SV.rn, rnL_id hm cs h]
  | .clo f cs, h => by simp only [SV.inn] at h; simp only [SV.rn, rnL_id hm cs h]
  | .dead, _ => rfl
  | .lit _ _, _ => rfl
  | .sref o j n, h => by simp only [SV.inn, decide_eq_true_eq] at h; simp only [SV.rn, hm o h]
  | .yld o, h => by simp only [SV.inn, decide_eq_true_eq] at h; simp only [SV.rn, hm o h]
  | .bnd f cs, h => by simp only [SV.inn] at h; simp only [SV.rn, rnL_id hm cs h]
theorem rnL_id {m : Nat → Nat} {k : Nat} (hm : ∀ j, j < k → m j = j) : ∀ (cs : List SV), SV.inL k cs = true → SV.rnL m cs = cs
  | [], _ => rfl
  | c :: cs, h => by simp only [SV.inL, Bool.and_eq_true] at h; simp only [SV.rnL, rn_id hm c h.1, rnL_id hm cs h.2]
end

end Go.Sy
