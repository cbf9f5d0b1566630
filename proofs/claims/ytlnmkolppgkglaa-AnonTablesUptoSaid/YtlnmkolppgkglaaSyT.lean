/- Helps: bytes, numbers in their bounds, loops with more state. -/
import Derived.Test.YtlnmkolppgkglaaSyS
set_option linter.all false
set_option maxHeartbeats 4000000
set_option maxRecDepth 100000
namespace Go.Sy
open Go.RowKit

theorem must_nn {b : Bool} {n : Nat} {K : Prop} (h : b = true) (k : K) : must (b && n == n) K := by rw [must_iff]; exact ⟨by simp [h], k⟩

def u8s (l : List Int) : List PV := l.map fun x => .val (.int .u8 x)
theorem u8s_get {l : List Int} {i : Nat} {p : PV} (h : (u8s l)[i]? = some p) : p = .val (.int .u8 (l.getD i 0)) ∧ i < l.length := by
  unfold u8s at h
  rw [List.getElem?_map, Option.map_eq_some_iff] at h
  obtain ⟨x, hx, rfl⟩ := h
  exact ⟨by rw [List.getD_eq_getElem?_getD, hx]; rfl, (List.getElem?_eq_some_iff.1 hx).1⟩
theorem u8s_len (l : List Int) : (u8s l).length = l.length := by simp [u8s]
abbrev bts (nl : Bool) (l : List Int) : SV := .pure (.list 1 nl (u8s l))
theorem w64 {n : Int} (h : -9223372036854775808 ≤ n) (h' : n ≤ 9223372036854775807) : IntKind.i64.wrap n = n := by
  rw [IntKind.wrap_i64]; omega

/-- The bits of bytes, the highest first. -/
def bitI (l : List Int) (i : Int) : Int := (l.getD (i / 8).toNat 0) / 2 ^ (7 - i % 8).toNat % 2

/-- The same, of 2. -/
theorem awp_loop2 {P : Program} {k : Kx} {n : Nat} {c : Code} {σ : St} {Q : Exit → St → Prop} {α β : Type} (inv : α → β → Prop) (sl : α → β → List (Nat × SV)) (st : α → β → List Ob) (μ : α → β → Nat) (x0 : α) (y0 : β) (f0 : Nat → Nat)
    (h0 : inv x0 y0) (hn : σ.env.length = n) (hl : holds f0 σ.env (sl x0 y0)) (hst : σ.st.take (st x0 y0).length = upSt f0 0 (st x0 y0)) (hf0 : ∀ o, o < k.n → f0 o = 0)
    (hi : ∀ x y, k.n ≤ (st x y).length ∧ SV.inL (st x y).length ((sl x y).map (·.2)) = true ∧ (st x y).all (Ob.inn (st x y).length) = true)
    (round : ∀ x y, inv x y → vc P k c ⟨mkEnv n (sl x y), st x y⟩ fun e σ' => match e with
      | .normal => ∃ x' y' f, inv x' y' ∧ μ x' y' < μ x y ∧ σ'.env.length = n ∧ holds f σ'.env (sl x' y') ∧ σ'.st.take (st x' y').length = upSt f 0 (st x' y') ∧ (∀ o, o < k.n → f o = 0)
      | e => Q e σ') (hdi : SV.inL k.n k.dss = true := by rfl) : Hand P k (.loop c) σ Q := by
  refine ⟨fun E a w hE hr => ?_⟩
  refine wpIn_loop_ghost (fun m a w => ∃ x y, inv x y ∧ μ x y = m ∧ Rel E ⟨mkEnv n (sl x y), st x y⟩ a w) (μ x0 y0) ⟨x0, y0, h0, rfl, weaken f0 hE hr hn hl hst (hi x0 y0).1 hf0 hdi (hi x0 y0).2.1 (hi x0 y0).2.2⟩ ?_
  rintro m a w ⟨x, y, hx, rfl, hr⟩
  refine wpIn_mono (vc_sound c _ _ (round x y hx) E a w hE hr) ?_
  rintro e a' w' ⟨σ', hq, hr'⟩
  cases e with
  | normal =>
    obtain ⟨x', y', f, h1, h2, h3, h4, h5, h6⟩ := hq
    exact ⟨μ x' y', h2, x', y', h1, rfl, weaken f hE hr' h3 h4 h5 (hi x' y').1 h6 hdi (hi x' y').2.1 (hi x' y').2.2⟩
  | exit id => exact ⟨σ', hq, hr'⟩
  | goto l => exact ⟨σ', hq, hr'⟩
  | ret => exact ⟨σ', hq, hr'⟩
  | panic ch => exact ⟨σ', hq, hr'⟩
  | outgrown => exact ⟨σ', hq, hr'⟩

/-- The same, of 3. -/
theorem awp_loop3 {P : Program} {k : Kx} {n : Nat} {c : Code} {σ : St} {Q : Exit → St → Prop} {α β γ : Type} (inv : α → β → γ → Prop) (sl : α → β → γ → List (Nat × SV)) (st : α → β → γ → List Ob) (μ : α → β → γ → Nat) (x0 : α) (y0 : β) (z0 : γ) (f0 : Nat → Nat)
    (h0 : inv x0 y0 z0) (hn : σ.env.length = n) (hl : holds f0 σ.env (sl x0 y0 z0)) (hst : σ.st.take (st x0 y0 z0).length = upSt f0 0 (st x0 y0 z0)) (hf0 : ∀ o, o < k.n → f0 o = 0)
    (hi : ∀ x y z, k.n ≤ (st x y z).length ∧ SV.inL (st x y z).length ((sl x y z).map (·.2)) = true ∧ (st x y z).all (Ob.inn (st x y z).length) = true)
    (round : ∀ x y z, inv x y z → vc P k c ⟨mkEnv n (sl x y z), st x y z⟩ fun e σ' => match e with
      | .normal => ∃ x' y' z' f, inv x' y' z' ∧ μ x' y' z' < μ x y z ∧ σ'.env.length = n ∧ holds f σ'.env (sl x' y' z') ∧ σ'.st.take (st x' y' z').length = upSt f 0 (st x' y' z') ∧ (∀ o, o < k.n → f o = 0)
      | e => Q e σ') (hdi : SV.inL k.n k.dss = true := by rfl) : Hand P k (.loop c) σ Q := by
  refine ⟨fun E a w hE hr => ?_⟩
  refine wpIn_loop_ghost (fun m a w => ∃ x y z, inv x y z ∧ μ x y z = m ∧ Rel E ⟨mkEnv n (sl x y z), st x y z⟩ a w) (μ x0 y0 z0) ⟨x0, y0, z0, h0, rfl, weaken f0 hE hr hn hl hst (hi x0 y0 z0).1 hf0 hdi (hi x0 y0 z0).2.1 (hi x0 y0 z0).2.2⟩ ?_
  rintro m a w ⟨x, y, z, hx, rfl, hr⟩
  refine wpIn_mono (vc_sound c _ _ (round x y z hx) E a w hE hr) ?_
  rintro e a' w' ⟨σ', hq, hr'⟩
  cases e with
  | normal =>
    obtain ⟨x', y', z', f, h1, h2, h3, h4, h5, h6⟩ := hq
    exact ⟨μ x' y' z', h2, x', y', z', h1, rfl, weaken f hE hr' h3 h4 h5 (hi x' y' z').1 h6 hdi (hi x' y' z').2.1 (hi x' y' z').2.2⟩
  | exit id => exact ⟨σ', hq, hr'⟩
  | goto l => exact ⟨σ', hq, hr'⟩
  | ret => exact ⟨σ', hq, hr'⟩
  | panic ch => exact ⟨σ', hq, hr'⟩
  | outgrown => exact ⟨σ', hq, hr'⟩

/-- The same, of 4. -/
theorem awp_loop4 {P : Program} {k : Kx} {n : Nat} {c : Code} {σ : St} {Q : Exit → St → Prop} {α β γ δ : Type} (inv : α → β → γ → δ → Prop) (sl : α → β → γ → δ → List (Nat × SV)) (st : α → β → γ → δ → List Ob) (μ : α → β → γ → δ → Nat) (x0 : α) (y0 : β) (z0 : γ) (u0 : δ) (f0 : Nat → Nat)
    (h0 : inv x0 y0 z0 u0) (hn : σ.env.length = n) (hl : holds f0 σ.env (sl x0 y0 z0 u0)) (hst : σ.st.take (st x0 y0 z0 u0).length = upSt f0 0 (st x0 y0 z0 u0)) (hf0 : ∀ o, o < k.n → f0 o = 0)
    (hi : ∀ x y z u, k.n ≤ (st x y z u).length ∧ SV.inL (st x y z u).length ((sl x y z u).map (·.2)) = true ∧ (st x y z u).all (Ob.inn (st x y z u).length) = true)
    (round : ∀ x y z u, inv x y z u → vc P k c ⟨mkEnv n (sl x y z u), st x y z u⟩ fun e σ' => match e with
      | .normal => ∃ x' y' z' u' f, inv x' y' z' u' ∧ μ x' y' z' u' < μ x y z u ∧ σ'.env.length = n ∧ holds f σ'.env (sl x' y' z' u') ∧ σ'.st.take (st x' y' z' u').length = upSt f 0 (st x' y' z' u') ∧ (∀ o, o < k.n → f o = 0)
      | e => Q e σ') (hdi : SV.inL k.n k.dss = true := by rfl) : Hand P k (.loop c) σ Q := by
  refine ⟨fun E a w hE hr => ?_⟩
  refine wpIn_loop_ghost (fun m a w => ∃ x y z u, inv x y z u ∧ μ x y z u = m ∧ Rel E ⟨mkEnv n (sl x y z u), st x y z u⟩ a w) (μ x0 y0 z0 u0) ⟨x0, y0, z0, u0, h0, rfl, weaken f0 hE hr hn hl hst (hi x0 y0 z0 u0).1 hf0 hdi (hi x0 y0 z0 u0).2.1 (hi x0 y0 z0 u0).2.2⟩ ?_
  rintro m a w ⟨x, y, z, u, hx, rfl, hr⟩
  refine wpIn_mono (vc_sound c _ _ (round x y z u hx) E a w hE hr) ?_
  rintro e a' w' ⟨σ', hq, hr'⟩
  cases e with
  | normal =>
    obtain ⟨x', y', z', u', f, h1, h2, h3, h4, h5, h6⟩ := hq
    exact ⟨μ x' y' z' u', h2, x', y', z', u', h1, rfl, weaken f hE hr' h3 h4 h5 (hi x' y' z' u').1 h6 hdi (hi x' y' z' u').2.1 (hi x' y' z' u').2.2⟩
  | exit id => exact ⟨σ', hq, hr'⟩
  | goto l => exact ⟨σ', hq, hr'⟩
  | ret => exact ⟨σ', hq, hr'⟩
  | panic ch => exact ⟨σ', hq, hr'⟩
  | outgrown => exact ⟨σ', hq, hr'⟩

end Go.Sy
