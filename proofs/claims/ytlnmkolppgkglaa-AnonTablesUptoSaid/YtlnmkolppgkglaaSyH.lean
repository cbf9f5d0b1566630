/- The walk's operations are what the model does: objects made and turned. -/
import Derived.Test.YtlnmkolppgkglaaSyG
set_option linter.all false
set_option maxHeartbeats 4000000
namespace Go.Sy
open Go.RowKit

def Fits (E : Ent) (χ : Nat → Color) (G : Gh) (σ : St) (a : Act) (w : World) : Prop :=
  RTL χ w G σ.env a.tmps.toList ∧ RSt χ w G σ.st ∧ Fr E.χ E.w χ w ∧ RD E χ w G a.defers ∧ E.k.n ≤ σ.st.length ∧ GLe E.k.n E.G G ∧ (∀ o, σ.st.length ≤ o → G o = none)

theorem Fits.rel {E : Ent} {χ : Nat → Color} {G : Gh} {σ : St} {a : Act} {w : World} (h : Fits E χ G σ a w) : Rel E σ a w := ⟨χ, G, h⟩
theorem Fits.two {E : Ent} {χ : Nat → Color} {G : Gh} {σ : St} {a : Act} {w : World} {s : SV} {v : Value} (h : Fits E χ G σ a w) (hs : RS χ w G s v) : Rel2 E σ a w s v := ⟨χ, G, h, hs⟩

theorem RO.mono {χ χ' : Nat → Color} {w w' : World} {G G' : Gh} {o : Nat} {ob : Ob} (hk : Keep χ w χ' w') (hg : GGo G G') (ho : G' o = G o)
    (hb : ∀ b, b < w.heap.size → χ b = .own o → χ' b = .own o ∧ w'.heap[b]? = w.heap[b]?) (h : RO χ w G o ob) : RO χ' w' G' o ob := by
  cases ob with
  | cells t cs =>
    obtain ⟨g, us, h1, h2, h3, h4⟩ := h
    have hlt : g < w.heap.size := (Array.getElem?_eq_some_iff.1 h3).1
    exact ⟨g, us, by rw [ho]; exact h1, (hb g hlt h2).1, by rw [(hb g hlt h2).2]; exact h3, RSL.mono hk hg _ _ h4⟩
  | vec n e sz nl xs =>
    obtain ⟨hd, us, h1, h2, h3, h4, h5⟩ := h
    have hlt : ∀ g, hd.ownBlock = some g → g < w.heap.size := fun g hg' => by
      rcases h2.2 with ⟨rfl, _⟩ | ⟨g', c, cur, rfl, _, hh, _⟩
      · simp [Value.ownBlock] at hg'
      · simp [Value.ownBlock] at hg'
        subst hg'
        exact (Array.getElem?_eq_some_iff.1 hh).1
    refine ⟨hd, us, by rw [ho]; exact h1, ⟨h2.1, ?_⟩, RF.mono hk _ _ _ h3, h4, fun g hg' => (hb g (hlt g hg') (h5 g hg')).1⟩
    rcases h2.2 with h | ⟨g', c, cur, rfl, h6, hh, h7⟩
    · exact .inl h
    · exact .inr ⟨g', c, cur, rfl, h6, by rw [(hb g' (hlt g' rfl) (h5 g' rfl)).2]; exact hh, h7⟩
  | fro n sz nl xs =>
    obtain ⟨hd, h1, h2⟩ := h
    exact ⟨hd, by rw [ho]; exact h1, RP.mono hk _ _ h2⟩
  | gone => trivial
  | row t n xs =>
    obtain ⟨g, us, vs, h1, h2, h3, h4, h5⟩ := h
    have hlt : g < w.heap.size := (Array.getElem?_eq_some_iff.1 h3).1
    exact ⟨g, us, vs, by rw [ho]; exact h1, (hb g hlt h2).1, by rw [(hb g hlt h2).2]; exact h3, h4, RL.mono hk _ _ h5⟩
  | loop env ps asg body s pend =>
    obtain ⟨g, us, fn, D, h1, h2, h3, h4⟩ := h
    have hlt : g < w.heap.size := (Array.getElem?_eq_some_iff.1 h3).1
    exact ⟨g, us, fn, D, by rw [ho]; exact h1, (hb g hlt h2).1, by rw [(hb g hlt h2).2]; exact h3, RTL.mono hk hg _ _ h4⟩
  | map es =>
    obtain ⟨g, es', c, h1, h2, h3, h4, h5, h6⟩ := h
    have hlt : g < w.heap.size := (Array.getElem?_eq_some_iff.1 h3).1
    exact ⟨g, es', c, by rw [ho]; exact h1, (hb g hlt h2).1, by rw [(hb g hlt h2).2]; exact h3, RM.mono hk _ _ h4, h5, h6⟩

/-- One object turns, or comes; all else stays. -/
theorem Fits.upd {E : Ent} {χ χ' : Nat → Color} {G G' : Gh} {env : List SV} {st st' : List Ob} {a : Act} {w w' : World} (o : Nat) (ob : Ob) (h : Fits E χ G ⟨env, st⟩ a w)
    (hos : w'.os = w.os) (htp : w'.tape = w.tape) (hou : w'.output = w.output) (hsz : w.heap.size ≤ w'.heap.size)
    (hb : ∀ b, b < w.heap.size → χ b ≠ .own o → χ' b = χ b ∧ w'.heap[b]? = w.heap[b]?)
    (hG : ∀ o', o' ≠ o → G' o' = G o')
    (hGo : (∀ g, G o = some (.fix g) → G' o = some (.fix g)) ∧ (∀ n h, G o = some (.ver n h) → ∃ m h', G' o = some (.ver m h') ∧ n ≤ m ∧ (n = m → h' = h)))
    (hr : RO χ' w' G' o ob)
    (hst : ∀ (o' : Nat) ob', st'[o']? = some ob' → (o' = o ∧ ob' = ob) ∨ (o' ≠ o ∧ st[o']? = some ob'))
    (hlen : st.length ≤ st'.length) (hnew : ∀ o', st'.length ≤ o' → st.length ≤ o' ∧ o' ≠ o) : Fits E χ' G' ⟨env, st'⟩ a w' := by
  obtain ⟨h1, h2, h3, h4, h5, h6, h7⟩ := h
  have hk : Keep χ w χ' w' := fun b hlt hi => by
    obtain ⟨e1, e2⟩ := hb b hlt (by rw [hi]; simp)
    exact ⟨by rw [e1]; exact hi, e2⟩
  have hgo : GGo G G' := fun o' => by
    by_cases e : o' = o
    · subst e; exact hGo
    · exact ⟨fun g hg => by rw [hG o' e]; exact hg, fun n hd hh => ⟨n, hd, by rw [hG o' e]; exact hh, Nat.le_refl _, fun _ => rfl⟩⟩
  refine ⟨RTL.mono hk hgo _ _ h1, fun o' ob' ho' => ?_, ⟨hos.trans h3.os, htp.trans h3.tape, hou.trans h3.output, Nat.le_trans h3.size hsz, fun b hlt hi => ?_, fun b hlt hi => ?_⟩, h4.mono hk hgo (fun b hlt hm => by
      obtain ⟨e1, e2⟩ := hb b hlt (by rw [hm]; simp)
      exact ⟨by rw [e1]; exact hm, e2⟩), Nat.le_trans h5 hlen, fun o' ho' => ?_, fun o' ho' => ?_⟩
  · rcases hst o' ob' ho' with ⟨rfl, rfl⟩ | ⟨hne, hold⟩
    · exact hr
    · refine RO.mono hk hgo (hG o' hne) (fun b hlt hc => ?_) (h2 o' ob' hold)
      obtain ⟨e1, e2⟩ := hb b hlt (by rw [hc]; intro h; injection h with h; exact hne h)
      exact ⟨by rw [e1]; exact hc, e2⟩
  · obtain ⟨e1, e2⟩ := h3.imm b hlt hi
    obtain ⟨e3, e4⟩ := hb b (Nat.lt_of_lt_of_le hlt h3.size) (by rw [e1]; simp)
    exact ⟨by rw [e3]; exact e1, by rw [e4]; exact e2⟩
  · obtain ⟨e1, e2⟩ := h3.other b hlt hi
    obtain ⟨e3, e4⟩ := hb b (Nat.lt_of_lt_of_le hlt h3.size) (by rw [e1]; simp)
    exact ⟨by rw [e3]; exact e1, by rw [e4]; exact e2⟩
  · obtain ⟨g1, g2⟩ := h6 o' ho'
    refine ⟨fun g hg => (hgo o').1 g (g1 g hg), fun n hd hh => ?_⟩
    obtain ⟨m, hd', e1, e2, e3⟩ := g2 n hd hh
    obtain ⟨m', hd'', e4, e5, e6⟩ := (hgo o').2 m hd' e1
    exact ⟨m', hd'', e4, Nat.le_trans e2 e5, fun e => by rw [e6 (by omega), e3 (by omega)]⟩
  · obtain ⟨e1, e2⟩ := hnew o' ho'
    rw [hG o' e2]
    exact h7 o' e1

/-- The world goes on, nothing that was there turns. -/
theorem Fits.ext {E : Ent} {χ χ' : Nat → Color} {G : Gh} {σ : St} {a : Act} {w w' : World} (h : Fits E χ G σ a w)
    (hos : w'.os = w.os) (htp : w'.tape = w.tape) (hou : w'.output = w.output) (hsz : w.heap.size ≤ w'.heap.size)
    (hb : ∀ b, b < w.heap.size → χ' b = χ b ∧ w'.heap[b]? = w.heap[b]?) : Fits E χ' G σ a w' := by
  obtain ⟨h1, h2, h3, h4, h5, h6, h7⟩ := h
  have hk : Keep χ w χ' w' := fun b hlt hi => ⟨by rw [(hb b hlt).1]; exact hi, (hb b hlt).2⟩
  refine ⟨RTL.mono hk (GGo.refl _) _ _ h1, fun o ob ho => RO.mono hk (GGo.refl _) rfl (fun b hlt hc => ⟨by rw [(hb b hlt).1]; exact hc, (hb b hlt).2⟩) (h2 o ob ho),
    ⟨hos.trans h3.os, htp.trans h3.tape, hou.trans h3.output, Nat.le_trans h3.size hsz, fun b hlt hi => ?_, fun b hlt hi => ?_⟩, h4.mono hk (GGo.refl _) (fun b hlt hm => ⟨by rw [(hb b hlt).1]; exact hm, (hb b hlt).2⟩), h5, h6, h7⟩
  · obtain ⟨e1, e2⟩ := h3.imm b hlt hi
    obtain ⟨e3, e4⟩ := hb b (Nat.lt_of_lt_of_le hlt h3.size)
    exact ⟨by rw [e3]; exact e1, by rw [e4]; exact e2⟩
  · obtain ⟨e1, e2⟩ := h3.other b hlt hi
    obtain ⟨e3, e4⟩ := hb b (Nat.lt_of_lt_of_le hlt h3.size)
    exact ⟨by rw [e3]; exact e1, by rw [e4]; exact e2⟩

theorem getElem?_set_cases {α : Type} (l : List α) (o : Nat) (x : α) (o' : Nat) (y : α) (h : (l.set o x)[o']? = some y) : (o' = o ∧ y = x) ∨ (o' ≠ o ∧ l[o']? = some y) := by
  rw [List.getElem?_set] at h
  split at h
  · rename_i e
    subst e
    split at h
    · injection h with h; exact .inl ⟨rfl, h.symm⟩
    · cases h
  · rename_i e
    exact .inr ⟨fun h => e h.symm, h⟩

theorem getElem?_snoc_cases {α : Type} (l : List α) (x : α) (o' : Nat) (y : α) (h : (l ++ [x])[o']? = some y) : (o' = l.length ∧ y = x) ∨ (o' ≠ l.length ∧ l[o']? = some y) := by
  by_cases e : o' = l.length
  · subst e
    simp at h
    exact .inl ⟨rfl, h.symm⟩
  · right
    refine ⟨e, ?_⟩
    rcases Nat.lt_or_ge o' l.length with hlt | hge
    · rwa [List.getElem?_append_left hlt] at h
    · rw [List.getElem?_eq_none (by simp; omega)] at h
      cases h

/-- An object that is there. -/
theorem Fits.set {E : Ent} {χ χ' : Nat → Color} {G G' : Gh} {env : List SV} {st : List Ob} {a : Act} {w w' : World} {o : Nat} {ob : Ob} (h : Fits E χ G ⟨env, st⟩ a w) (hlt : o < st.length)
    (hos : w'.os = w.os) (htp : w'.tape = w.tape) (hou : w'.output = w.output) (hsz : w.heap.size ≤ w'.heap.size)
    (hb : ∀ b, b < w.heap.size → χ b ≠ .own o → χ' b = χ b ∧ w'.heap[b]? = w.heap[b]?)
    (hG : ∀ o', o' ≠ o → G' o' = G o')
    (hGo : (∀ g, G o = some (.fix g) → G' o = some (.fix g)) ∧ (∀ n h, G o = some (.ver n h) → ∃ m h', G' o = some (.ver m h') ∧ n ≤ m ∧ (n = m → h' = h)))
    (hr : RO χ' w' G' o ob) : Fits E χ' G' ⟨env, st.set o ob⟩ a w' :=
  h.upd o ob hos htp hou hsz hb hG hGo hr (getElem?_set_cases st o ob) (by simp) (fun o' ho' => by simp at ho'; omega)

/-- A new object. -/
theorem Fits.new {E : Ent} {χ χ' : Nat → Color} {G G' : Gh} {env : List SV} {st : List Ob} {a : Act} {w w' : World} {ob : Ob} (h : Fits E χ G ⟨env, st⟩ a w)
    (hos : w'.os = w.os) (htp : w'.tape = w.tape) (hou : w'.output = w.output) (hsz : w.heap.size ≤ w'.heap.size)
    (hb : ∀ b, b < w.heap.size → χ' b = χ b ∧ w'.heap[b]? = w.heap[b]?)
    (hG : ∀ o', o' ≠ st.length → G' o' = G o')
    (hr : RO χ' w' G' st.length ob) : Fits E χ' G' ⟨env, st ++ [ob]⟩ a w' := by
  have h7 := h.2.2.2.2.2.2 st.length (Nat.le_refl _)
  exact h.upd st.length ob hos htp hou hsz (fun b hlt _ => hb b hlt) hG (by rw [h7]; exact ⟨fun g hg => (by cases hg), fun n hd hh => (by cases hh)⟩) hr (getElem?_snoc_cases st ob) (by simp) (fun o' ho' => by simp at ho'; omega)

/-- A mark at one place of a function. -/
def upF {α : Type} (f : Nat → α) (k : Nat) (x : α) : Nat → α := fun i => if i = k then x else f i
theorem upF_same {α : Type} (f : Nat → α) (k : Nat) (x : α) : upF f k x k = x := by simp [upF]
theorem upF_ne {α : Type} (f : Nat → α) {k i : Nat} (x : α) (h : i ≠ k) : upF f k x i = f i := by simp [upF, h]

section
variable {P : Program} {E : Ent} {χ : Nat → Color} {G : Gh} {env : List SV} {st : List Ob} {a : Act} {w : World}

theorem RSL.mono' {χ χ' : Nat → Color} {w w' : World} {G G' : Gh} (hk : Keep χ w χ' w') (hg : GGo G G') {cs : List SV} {us : List Value} (h : RSL χ w G cs us) : RSL χ' w' G' cs us := RSL.mono hk hg cs us h

/-- A new block of cells. -/
theorem Fits.box (h : Fits E χ G ⟨env, st⟩ a w) (t : TypeId) {cs : List SV} {us : List Value} (hr : RSL χ w G cs us) :
    Fits E (upF χ w.heap.size (.own st.length)) (upF G st.length (some (.fix w.heap.size))) ⟨env, st ++ [.cells t cs]⟩ a (w.alloc (.cells us.toArray t)) := by
  have hk : Keep χ w (upF χ w.heap.size (.own st.length)) (w.alloc (.cells us.toArray t)) := fun b hlt hi =>
    ⟨by rw [upF_ne _ _ (by omega)]; exact hi, Below.heap_alloc w _ b hlt⟩
  have h7 := h.2.2.2.2.2.2 st.length (Nat.le_refl _)
  have hg : GGo G (upF G st.length (some (.fix w.heap.size))) := fun o' => by
    by_cases e : o' = st.length
    · subst e; rw [h7]; exact ⟨fun g hg => (by cases hg), fun n hd hh => (by cases hh)⟩
    · rw [upF_ne _ _ e]; exact ⟨fun g hg => hg, fun n hd hh => ⟨n, hd, hh, Nat.le_refl _, fun _ => rfl⟩⟩
  exact h.new rfl rfl rfl (by simp) (fun b hlt => ⟨upF_ne _ _ (by omega), Below.heap_alloc w _ b hlt⟩) (fun o' ho' => upF_ne _ _ ho')
    ⟨w.heap.size, us, upF_same _ _ _, upF_same _ _ _, heap_alloc_new w _, RSL.mono hk hg _ _ hr⟩

/-- A new row of one's own. -/
theorem Fits.newVec (h : Fits E χ G ⟨env, st⟩ a w) {w' : World} {hd : Value} {e sz : Nat} {nl : Bool} {xs : List PV} {us : List Value}
    (hos : w'.os = w.os) (htp : w'.tape = w.tape) (hou : w'.output = w.output) (hsz : w.heap.size ≤ w'.heap.size) (hb : ∀ b, b < w.heap.size → w'.heap[b]? = w.heap[b]?)
    (hown : w'.ownsRow 0 e sz hd xs.length us) (hf : RF χ w sz xs us) (hnl : nl = true ↔ hd = .slice none 0 0) (hnew : ∀ g, hd.ownBlock = some g → w.heap.size ≤ g) :
    ∃ χ', Fits E χ' (upF G st.length (some (.ver 0 hd))) ⟨env, st ++ [.vec 0 e sz nl xs]⟩ a w' ∧ RS χ' w' (upF G st.length (some (.ver 0 hd))) (.vref st.length 0) hd := by
  have hk : Keep χ w (fun b => if hd.ownBlock = some b then .own st.length else χ b) w' := fun b hlt hi =>
    ⟨by simp only; rw [if_neg (fun e => by have := hnew b e; omega)]; exact hi, hb b hlt⟩
  refine ⟨fun b => if hd.ownBlock = some b then .own st.length else χ b, h.new hos htp hou hsz (fun b hlt => ⟨by rw [if_neg (fun e => by have := hnew b e; omega)], hb b hlt⟩) (fun o' ho' => upF_ne _ _ ho') ?_, ?_⟩
  · exact ⟨hd, us, upF_same _ _ _, hown, RF.mono hk _ _ _ hf, hnl, fun g hg => by simp [hg]⟩
  · refine ⟨?_, 0, hd, upF_same _ _ _, Nat.le_refl _, fun _ => rfl⟩
    rcases hown.2 with ⟨rfl, _⟩ | ⟨g, c, cur, rfl, _⟩ <;> rfl

/-- Nobody writes a vec any more. -/
theorem Fits.freeze (h : Fits E χ G ⟨env, st⟩ a w) {o n e sz : Nat} {nl : Bool} {xs : List PV} (ho : st[o]? = some (.vec n e sz nl xs)) :
    ∃ χ' hd, Fits E χ' G ⟨env, st.set o (.fro n sz nl xs)⟩ a w ∧ (∀ b, χ b = .imm → χ' b = .imm) ∧ G o = some (.ver n hd) ∧ RP χ' w (.list sz nl xs) hd := by
  have hlt : o < st.length := (List.getElem?_eq_some_iff.1 ho).1
  obtain ⟨hd, us, hG, hown, hf, hnl, hcol⟩ := h.2.1 o _ ho
  have hk : Keep χ w (fun b => if hd.ownBlock = some b then .imm else χ b) w := fun b hlt hi => ⟨by simp only; split; rfl; exact hi, rfl⟩
  have hrp : RP (fun b => if hd.ownBlock = some b then .imm else χ b) w (.list sz nl xs) hd := by
    have hf' := RF.mono hk _ _ _ hf
    rcases hown.2 with ⟨rfl, h0⟩ | ⟨g, c, cur, rfl, _, hh, hle, hm, hcs, htk⟩
    · have hus : us = [] := List.eq_nil_of_length_eq_zero (by rw [hown.1, h0, Nat.zero_mul])
      subst hus
      exact ⟨none, 0, [], by rw [h0], by omega, Nat.zero_le _, fun _ => rfl, by simpa using hnl, hf', fun k u hu => by simp at hu⟩
    · refine ⟨_, c, us, rfl, hle, hm, fun h => (by cases h), by simpa using hnl, hf', fun k u hu => ⟨_, rfl, by simp [Value.ownBlock], ?_⟩⟩
      rw [add_pl, World.cell?, hh]
      simp only [Option.isSome_none, Bool.false_eq_true, if_false, Nat.zero_add]
      rw [← htk, List.getElem?_take] at hu
      split at hu
      · simpa using hu
      · cases hu
  refine ⟨_, hd, h.set hlt rfl rfl rfl (Nat.le_refl _) (fun b hb hne => ⟨?_, rfl⟩) (fun _ _ => rfl) ⟨fun g hg => hg, fun n hd hh => ⟨n, hd, hh, Nat.le_refl _, fun _ => rfl⟩⟩ ⟨hd, hG, hrp⟩, fun b hi => by (try simp only); split; rfl; exact hi, hG, hrp⟩
  rw [if_neg (fun e => hne (hcol b e))]

end
end Go.Sy
