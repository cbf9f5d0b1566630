/- Loops, ends of functions. -/
import Derived.Test.YtlnmkolppgkglaaSyM
import Derived.Deep.LoopGhost
set_option linter.all false
set_option maxHeartbeats 4000000
namespace Go.Sy
open Go.RowKit

mutual
/-- Numbers of vecs, raised. -/
def SV.up (f : Nat → Nat) : SV → SV
  | .vref o n => .vref o (n + f o)
  | .eptr o n sz i off => .eptr o (n + f o) sz i off
  | .agg cs => .agg (SV.upL f cs)
  | .tup cs => .tup (SV.upL f cs)
  | .clo g cs => .clo g (SV.upL f cs)
  | .bnd g cs => .bnd g (SV.upL f cs)
  | s => s
def SV.upL (f : Nat → Nat) : List SV → List SV
  | [] => []
  | c :: cs => c.up f :: SV.upL f cs
end
def Ob.up (f : Nat → Nat) (o : Nat) : Ob → Ob
  | .cells t cs => .cells t (SV.upL f cs)
  | .vec n e sz nl xs => .vec (n + f o) e sz nl xs
  | .fro n sz nl xs => .fro (n + f o) sz nl xs
  | .gone => .gone
  | .row t n xs => .row t n xs
  | .loop env ps asg body s pend => .loop (SV.upL f env) ps asg body s pend
  | .map es => .map es
def upSt (f : Nat → Nat) : Nat → List Ob → List Ob
  | _, [] => []
  | o, ob :: obs => ob.up f o :: upSt f (o + 1) obs

theorem upSt_length (f : Nat → Nat) : ∀ (o : Nat) (l : List Ob), (upSt f o l).length = l.length
  | _, [] => rfl
  | o, ob :: obs => by simp [upSt, upSt_length f (o + 1) obs]
theorem upSt_get (f : Nat → Nat) : ∀ (l : List Ob) (o i : Nat), (upSt f o l)[i]? = (l[i]?).map (Ob.up f (o + i))
  | [], o, i => by simp [upSt]
  | ob :: obs, o, 0 => by simp [upSt]
  | ob :: obs, o, i + 1 => by simp [upSt, upSt_get f obs (o + 1) i, Nat.add_assoc, Nat.add_comm 1 i]

/-- Some slots; of the others nothing is known. -/
def mkEnv : Nat → List (Nat × SV) → List SV
  | n, [] => List.replicate n .dead
  | n, (i, s) :: l => (mkEnv n l).set i s
/-- The slots hold these. -/
def holds (f : Nat → Nat) (env : List SV) : List (Nat × SV) → Prop
  | [] => True
  | (i, s) :: l => env.getD i .dead = s.up f ∧ holds f env l

section
variable {χ : Nat → Color} {w : World} {G : Gh} {f : Nat → Nat} {m : Nat}

/-- Heads, with the numbers lowered; objects from m on forgotten. -/
def dn (f : Nat → Nat) (m : Nat) (G : Gh) : Gh := fun o => if o < m then (match G o with | some (.ver n h) => some (.ver (n - f o) h) | x => x) else none

mutual
theorem RS.dn : ∀ (s : SV) (v : Value), s.inn m = true → RS χ w G (s.up f) v → RS χ w (dn f m G) s v
  | .pure p, v, hs, h => h
  | .ptr o k, v, hs, ⟨g, h, e⟩ => ⟨g, by simp only [SV.inn, decide_eq_true_eq] at hs; simp [Sy.dn, hs, h], e⟩
  | .vref o n, v, hs, ⟨h0, k, h, h1, h2, h3⟩ => by
    simp only [SV.inn, decide_eq_true_eq] at hs
    exact ⟨h0, k - f o, h, by simp [Sy.dn, hs, h1], by omega, fun e => h3 (by omega)⟩
  | .eptr o n sz i off, v, hs, ⟨ad, h0, k, h, h1, h2, h3⟩ => by
    simp only [SV.inn, decide_eq_true_eq] at hs
    exact ⟨ad, h0, k - f o, h, by simp [Sy.dn, hs, h1], by omega, fun e => h3 (by omega)⟩
  | .ipt cs, v, hs, h => h
  | .mref o, v, hs, ⟨g, h, e⟩ => ⟨g, by simp only [SV.inn, decide_eq_true_eq] at hs; simp [Sy.dn, hs, h], e⟩
  | .agg cs, v, hs, ⟨us, h1, h2⟩ => ⟨us, h1, RSL.dn cs us (by simpa [SV.inn] using hs) h2⟩
  | .tup cs, v, hs, ⟨us, h1, h2⟩ => ⟨us, h1, RTL.dn cs us (by simpa [SV.inn] using hs) h2⟩
  | .clo g cs, v, hs, ⟨us, h1, h2⟩ => ⟨us, h1, RTL.dn cs us (by simpa [SV.inn] using hs) h2⟩
  | .dead, v, hs, h => trivial
  | .lit sz xs, v, hs, h => h
  | .sref o k n, v, hs, ⟨g, c, h, e⟩ => ⟨g, c, by simp only [SV.inn, decide_eq_true_eq] at hs; simp [Sy.dn, hs, h], e⟩
  | .yld o, v, hs, ⟨g, h, e⟩ => ⟨g, by simp only [SV.inn, decide_eq_true_eq] at hs; simp [Sy.dn, hs, h], e⟩
  | .bnd g cs, v, hs, ⟨us, h1, h2⟩ => ⟨us, h1, RTL.dn cs us (by simpa [SV.inn] using hs) h2⟩
theorem RSL.dn : ∀ (cs : List SV) (us : List Value), SV.inL m cs = true → RSL χ w G (SV.upL f cs) us → RSL χ w (dn f m G) cs us
  | [], us, hs, h => h
  | c :: cs, us, hs, ⟨u, r, h1, h2, h3, h4⟩ => by
    simp only [SV.inL, Bool.and_eq_true] at hs
    exact ⟨u, r, h1, h2, RS.dn c u hs.1 h3, RSL.dn cs r hs.2 h4⟩
theorem RTL.dn : ∀ (cs : List SV) (us : List Value), SV.inL m cs = true → RTL χ w G (SV.upL f cs) us → RTL χ w (dn f m G) cs us
  | [], us, hs, h => h
  | c :: cs, us, hs, ⟨u, r, h1, h2, h3⟩ => by
    simp only [SV.inL, Bool.and_eq_true] at hs
    exact ⟨u, r, h1, RS.dn c u hs.1 h2, RTL.dn cs r hs.2 h3⟩
end

theorem RO.dn {o : Nat} {ob : Ob} (ho : o < m) (hin : ob.inn m = true) (h : RO χ w G o (ob.up f o)) : RO χ w (dn f m G) o ob := by
  cases ob with
  | cells t cs =>
    obtain ⟨g, us, h1, h2, h3, h4⟩ := h
    exact ⟨g, us, by simp [Sy.dn, ho, h1], h2, h3, RSL.dn cs us (by simpa [Ob.inn] using hin) h4⟩
  | vec n e sz nl xs =>
    obtain ⟨hd, us, h1, h2, h3, h4, h5⟩ := h
    exact ⟨hd, us, by simp [Sy.dn, ho, h1], h2, h3, h4, h5⟩
  | fro n sz nl xs =>
    obtain ⟨hd, h1, h2⟩ := h
    exact ⟨hd, by simp [Sy.dn, ho, h1], h2⟩
  | gone => trivial
  | row t n xs =>
    obtain ⟨g, us, vs, h1, h2, h3, h4, h5⟩ := h
    exact ⟨g, us, vs, by simp [Sy.dn, ho, h1], h2, h3, h4, h5⟩
  | loop env ps asg body s pend =>
    obtain ⟨g, us, fn, D, h1, h2, h3, h4⟩ := h
    exact ⟨g, us, fn, D, by simp [Sy.dn, ho, h1], h2, h3, RTL.dn env us (by simpa [Ob.inn] using hin) h4⟩
  | map es =>
    obtain ⟨g, es', c, h1, h2, h3, h4, h5, h6⟩ := h
    exact ⟨g, es', c, by simp [Sy.dn, ho, h1], h2, h3, h4, h5, h6⟩

theorem RTL_set_any : ∀ {cs : List SV} {us : List Value}, RTL χ w G cs us → ∀ (d : Nat) {s : SV}, RS χ w G s (us.getD d undef) → RTL χ w G (cs.set d s) us
  | [], us, h, d, s, hs => by simpa using h
  | c :: cs, us, ⟨u, r, h1, h2, h3⟩, d, s, hs => by
    subst h1
    cases d with
    | zero => exact ⟨u, r, rfl, by simpa using hs, h3⟩
    | succ d => exact ⟨u, r, rfl, h2, RTL_set_any h3 d (by simpa using hs)⟩

theorem mkEnv_ok {env : List SV} {us : List Value} (h : RTL χ w G env us) : ∀ (l : List (Nat × SV)), holds f env l → SV.inL m (l.map (·.2)) = true → RTL χ w (Sy.dn f m G) (mkEnv env.length l) us
  | [], _, _ => by
    unfold mkEnv
    rw [← h.length]
    generalize us = us
    induction us with
    | nil => rfl
    | cons u us ih => exact ⟨u, us, rfl, trivial, ih⟩
  | (i, s) :: l, hh, hin => by
    obtain ⟨h1, h2⟩ := hh
    simp only [List.map_cons, SV.inL, Bool.and_eq_true] at hin
    refine RTL_set_any (mkEnv_ok h l h2 hin.2) i (RS.dn s _ hin.1 ?_)
    rw [← h1]
    exact h.get i
end

/-- Objects that came in have no raised numbers. -/
structure KOk (f : Nat → Nat) (k : Kx) : Prop where
  zero : ∀ o, o < k.n → f o = 0
  inn : SV.inL k.n k.dss = true

mutual
theorem up_below {f : Nat → Nat} {k : Nat} (hf : ∀ o, o < k → f o = 0) : ∀ (s : SV), s.inn k = true → s.up f = s
  | .pure _, _ => rfl
  | .ptr _ _, _ => rfl
  | .vref o n, h => by simp only [SV.inn, decide_eq_true_eq] at h; simp only [SV.up]; rw [hf o h]; rfl
  | .eptr o n sz i off, h => by simp only [SV.inn, decide_eq_true_eq] at h; simp only [SV.up]; rw [hf o h]; rfl
  | .ipt _, _ => rfl
  | .mref _, _ => rfl
  | .agg cs, h => by simp only [SV.up]; rw [upL_below hf cs (by simpa [SV.inn] using h)]
  | .tup cs, h => by simp only [SV.up]; rw [upL_below hf cs (by simpa [SV.inn] using h)]
  | .clo _ cs, h => by simp only [SV.up]; rw [upL_below hf cs (by simpa [SV.inn] using h)]
  | .dead, _ => rfl
  | .lit _ _, _ => rfl
  | .sref _ _ _, _ => rfl
  | .yld _, _ => rfl
  | .bnd _ cs, h => by simp only [SV.up]; rw [upL_below hf cs (by simpa [SV.inn] using h)]
theorem upL_below {f : Nat → Nat} {k : Nat} (hf : ∀ o, o < k → f o = 0) : ∀ (cs : List SV), SV.inL k cs = true → SV.upL f cs = cs
  | [], _ => rfl
  | c :: cs, h => by
    simp only [SV.inL, Bool.and_eq_true] at h
    simp only [SV.upL]
    rw [up_below hf c h.1, upL_below hf cs h.2]
end
mutual
theorem inn_mono {k m : Nat} (hkm : k ≤ m) : ∀ (s : SV), s.inn k = true → s.inn m = true
  | .pure _, _ => rfl
  | .ptr o _, h => by simp only [SV.inn, decide_eq_true_eq] at *; omega
  | .vref o n, h => by simp only [SV.inn, decide_eq_true_eq] at *; omega
  | .eptr o n sz i off, h => by simp only [SV.inn, decide_eq_true_eq] at *; omega
  | .ipt _, _ => rfl
  | .mref _, h => by simp only [SV.inn, decide_eq_true_eq] at *; omega
  | .agg cs, h => by simp only [SV.inn] at *; exact inL_mono hkm cs h
  | .tup cs, h => by simp only [SV.inn] at *; exact inL_mono hkm cs h
  | .clo _ cs, h => by simp only [SV.inn] at *; exact inL_mono hkm cs h
  | .dead, _ => rfl
  | .lit _ _, _ => rfl
  | .sref _ _ _, h => by simp only [SV.inn, decide_eq_true_eq] at *; omega
  | .yld _, h => by simp only [SV.inn, decide_eq_true_eq] at *; omega
  | .bnd _ cs, h => by simp only [SV.inn] at *; exact inL_mono hkm cs h
theorem inL_mono {k m : Nat} (hkm : k ≤ m) : ∀ (cs : List SV), SV.inL k cs = true → SV.inL m cs = true
  | [], _ => rfl
  | c :: cs, h => by
    simp only [SV.inL, Bool.and_eq_true] at *
    exact ⟨inn_mono hkm c h.1, inL_mono hkm cs h.2⟩
end

theorem RD.dn {E : Ent} {χ : Nat → Color} {w : World} {G : Gh} {ds : List Deferred} {f : Nat → Nat} {m : Nat} (h : RD E χ w G ds) (hf : ∀ o, o < E.k.n → f o = 0) (hi : SV.inL E.k.n E.k.dss = true) (hm : E.k.n ≤ m) : RD E χ w (Sy.dn f m G) ds := by
  obtain ⟨h1, h2, h3⟩ := h
  exact ⟨RTL.dn _ _ (inL_mono hm _ hi) (by rw [upL_below hf _ hi]; exact h1), h2, h3⟩

/-- One state's knowledge is another's, and less: some slots, the first objects. -/
theorem weaken {E : Ent} {k : Kx} {n : Nat} {σ : St} {a : Act} {w : World} {l : List (Nat × SV)} {st : List Ob} (f : Nat → Nat) (hE : E.k = k) (hr : Rel E σ a w) (hn : σ.env.length = n) (hl : holds f σ.env l) (hst : σ.st.take st.length = upSt f 0 st)
    (hk : k.n ≤ st.length) (hf : ∀ o, o < k.n → f o = 0) (hdi : SV.inL k.n k.dss = true) (hi : SV.inL st.length (l.map (·.2)) = true) (hi2 : st.all (Ob.inn st.length) = true) : Rel E ⟨mkEnv n l, st⟩ a w := by
  obtain ⟨χ, G, h1, h2, h3, h4, h5, h6, h7⟩ := hr
  refine ⟨χ, dn f st.length G, by rw [← hn]; exact mkEnv_ok h1 l hl hi, fun o ob ho => ?_, h3, h4.dn (by rw [hE]; exact hf) (by rw [hE]; exact hdi) (by rw [hE]; exact hk), by simp only; rw [hE]; omega, fun o ho => ?_, fun o ho => by simp [dn]; intro h; simp only at ho; omega⟩
  · have hlt : o < st.length := (List.getElem?_eq_some_iff.1 ho).1
    have e1 : σ.st[o]? = some (ob.up f o) := by
      have := congrArg (fun l => l[o]?) hst
      simp only [List.getElem?_take, hlt, if_true, upSt_get, Nat.zero_add] at this
      rw [this, ho]; rfl
    have hin : ob.inn st.length = true := by
      rw [List.all_eq_true] at hi2
      exact hi2 ob (List.mem_of_getElem? ho)
    exact RO.dn hlt hin (h2 o _ e1)
  · rw [hE] at ho
    obtain ⟨g1, g2⟩ := h6 o (by rw [hE]; exact ho)
    have hlt : o < st.length := by omega
    refine ⟨fun g hg => by simp [dn, hlt, g1 g hg], fun n' hd hh => ?_⟩
    obtain ⟨m, h', e1, e2, e3⟩ := g2 n' hd hh
    exact ⟨m, h', by simp [dn, hlt, e1, hf o (by omega)], e2, e3⟩

/-- **A loop**: what holds at each round's head, for some x; a number that each round lowers. -/
theorem awp_loop {P : Program} {k : Kx} {n : Nat} {c : Code} {σ : St} {Q : Exit → St → Prop} {α : Type} (inv : α → Prop) (sl : α → List (Nat × SV)) (st : α → List Ob) (μ : α → Nat) (x0 : α) (f0 : Nat → Nat)
    (h0 : inv x0) (hn : σ.env.length = n) (hl : holds f0 σ.env (sl x0)) (hst : σ.st.take (st x0).length = upSt f0 0 (st x0)) (hf0 : ∀ o, o < k.n → f0 o = 0)
    (hi : ∀ x, k.n ≤ (st x).length ∧ SV.inL (st x).length ((sl x).map (·.2)) = true ∧ (st x).all (Ob.inn (st x).length) = true)
    (round : ∀ x, inv x → vc P k c ⟨mkEnv n (sl x), st x⟩ fun e σ' => match e with
      | .normal => ∃ y f, inv y ∧ μ y < μ x ∧ σ'.env.length = n ∧ holds f σ'.env (sl y) ∧ σ'.st.take (st y).length = upSt f 0 (st y) ∧ (∀ o, o < k.n → f o = 0)
      | e => Q e σ') (hdi : SV.inL k.n k.dss = true := by rfl) : Hand P k (.loop c) σ Q := by
  refine ⟨fun E a w hE hr => ?_⟩
  refine wpIn_loop_ghost (fun m a w => ∃ x, inv x ∧ μ x = m ∧ Rel E ⟨mkEnv n (sl x), st x⟩ a w) (μ x0) ⟨x0, h0, rfl, weaken f0 hE hr hn hl hst (hi x0).1 hf0 hdi (hi x0).2.1 (hi x0).2.2⟩ ?_
  rintro m a w ⟨x, hx, rfl, hr⟩
  refine wpIn_mono (vc_sound c _ _ (round x hx) E a w hE hr) ?_
  rintro e a' w' ⟨σ', hq, hr'⟩
  cases e with
  | normal =>
    obtain ⟨y, f, h1, h2, h3, h4, h5, h6⟩ := hq
    exact ⟨μ y, h2, y, h1, rfl, weaken f hE hr' h3 h4 h5 (hi y).1 h6 hdi (hi y).2.1 (hi y).2.2⟩
  | exit id => exact ⟨σ', hq, hr'⟩
  | goto l => exact ⟨σ', hq, hr'⟩
  | ret => exact ⟨σ', hq, hr'⟩
  | panic ch => exact ⟨σ', hq, hr'⟩
  | outgrown => exact ⟨σ', hq, hr'⟩

end Go.Sy
