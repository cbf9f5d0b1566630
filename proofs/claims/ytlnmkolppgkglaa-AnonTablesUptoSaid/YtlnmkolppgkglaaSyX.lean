/- Functions of the library that have no body. -/
import Derived.Test.YtlnmkolppgkglaaSyW
import Derived.Lib.BytesEntry
set_option linter.all false
set_option maxHeartbeats 4000000
set_option maxRecDepth 100000
namespace Go.Sy
open Go Go.RowKit

/-- The objects written otherwise, at a barrier. -/
theorem rest_st {P : Program} {k : Kx} {c : Code} {env : List SV} {st st' : List Ob} {Q : Exit → St → Prop} (h : st = st') (hk : Rest P k c ⟨env, st'⟩ Q) : Rest P k c ⟨env, st⟩ Q := h ▸ hk
theorem rest_env {P : Program} {k : Kx} {c : Code} {env env' : List SV} {st : List Ob} {Q : Exit → St → Prop} (h : env = env') (hk : Rest P k c ⟨env', st⟩ Q) : Rest P k c ⟨env, st⟩ Q := h ▸ hk

/-- Two ways that come together: what stands behind is walked once. -/
theorem rest_join {P : Program} {k : Kx} {s r : Code} {σ : St} {Q : Exit → St → Prop} {α : Type} (n : Nat) (inv : α → Prop) (sl : α → List (Nat × SV)) (st : α → List Ob)
    (hi : ∀ x, k.n ≤ (st x).length ∧ SV.inL (st x).length ((sl x).map (·.2)) = true ∧ (st x).all (Ob.inn (st x).length) = true)
    (first : vc P k s σ fun e σ' => match e with
      | .normal => ∃ x f, inv x ∧ σ'.env.length = n ∧ holds f σ'.env (sl x) ∧ σ'.st.take (st x).length = upSt f 0 (st x) ∧ (∀ o, o < k.n → f o = 0)
      | e => Q e σ')
    (tail : ∀ x, inv x → Rest P k r ⟨mkEnv n (sl x), st x⟩ Q) (hdi : SV.inL k.n k.dss = true := by rfl) : Rest P k (.seq s r) σ Q := by
  refine ⟨fun E a w hE hr => wpIn_seq (wpIn_mono (vc_sound s σ _ first E a w hE hr) ?_)⟩
  rintro e a' w' ⟨σ', hq, hr'⟩
  cases e with
  | normal =>
    obtain ⟨x, f, h1, h2, h3, h4, h5⟩ := hq
    obtain ⟨tail⟩ := tail x h1
    exact tail E a' w' hE (weaken f hE hr' h2 h3 h4 (hi x).1 h5 hdi (hi x).2.1 (hi x).2.2)
  | exit id => exact ⟨σ', hq, hr'⟩
  | goto l => exact ⟨σ', hq, hr'⟩
  | ret => exact ⟨σ', hq, hr'⟩
  | panic ch => exact ⟨σ', hq, hr'⟩
  | outgrown => exact ⟨σ', hq, hr'⟩

/-- A loop's ways out that come together. -/
theorem hand_exit {P : Program} {k : Kx} {c : Code} {σ : St} {Q : Exit → St → Prop} {α : Type} (id0 n : Nat) (inv : α → Prop) (sl : α → List (Nat × SV)) (st : α → List Ob)
    (hi : ∀ x, k.n ≤ (st x).length ∧ SV.inL (st x).length ((sl x).map (·.2)) = true ∧ (st x).all (Ob.inn (st x).length) = true)
    (first : Hand P k c σ fun e σ' => match e with
      | .exit id => if id = id0 then ∃ x f, inv x ∧ σ'.env.length = n ∧ holds f σ'.env (sl x) ∧ σ'.st.take (st x).length = upSt f 0 (st x) ∧ (∀ o, o < k.n → f o = 0) else Q (.exit id) σ'
      | e => Q e σ')
    (tail : ∀ x, inv x → Q (.exit id0) ⟨mkEnv n (sl x), st x⟩) (hdi : SV.inL k.n k.dss = true := by rfl) : Hand P k c σ Q := by
  obtain ⟨first⟩ := first
  refine ⟨fun E a w hE hr => wpIn_mono (first E a w hE hr) ?_⟩
  rintro e a' w' ⟨σ', hq, hr'⟩
  cases e with
  | exit id =>
    simp only at hq
    split at hq
    · rename_i e
      subst e
      obtain ⟨x, f, h1, h2, h3, h4, h5⟩ := hq
      exact ⟨_, tail x h1, weaken f hE hr' h2 h3 h4 (hi x).1 h5 hdi (hi x).2.1 (hi x).2.2⟩
    · exact ⟨σ', hq, hr'⟩
  | normal => exact ⟨σ', hq, hr'⟩
  | goto l => exact ⟨σ', hq, hr'⟩
  | ret => exact ⟨σ', hq, hr'⟩
  | panic ch => exact ⟨σ', hq, hr'⟩
  | outgrown => exact ⟨σ', hq, hr'⟩

section
variable {P : Program} {χ : Nat → Color} {w : World}

theorem run_bytesOf {nl : Bool} {l : List Int} {v : Value} (h : RP χ w (.list 1 nl (u8s l)) v) : (Extern.Bytes.bytesOf v).run P w = .ok ⟨(Lib.bytesOf l).toArray⟩ w := by
  obtain ⟨A, c, us, rfl, h1, h2, h3, h4, h5, h6⟩ := h
  have hu := RF_u8 h5
  subst hu
  rw [u8s_len]
  cases A with
  | none =>
    have e := h3 rfl
    subst e
    have : l = [] := by simpa [u8s_len] using h1
    subst this
    rfl
  | some ad =>
    have := Lib.run_loadBytesX (P := P) w l ad .empty (fun j x hj => by
      obtain ⟨ad', e', hc⟩ := h6 j (.int .u8 x) (by simp [hj])
      injection e' with e'
      subst e'
      exact hc.2)
    show (Extern.Bytes.loadBytes ad l.length .empty).run P w = _
    rw [this]
    simp [ByteArray.empty, ByteArray.emptyWithCapacity]
    rfl

def cmpI (a b : List Int) : Int := Lib.compareBytes (Lib.bytesOf a) (Lib.bytesOf b)

/-- internal/bytealg.Compare. -/
theorem ext_compare {f : FuncId} {fn : Func} (hf : P.funcs[f]? = some fn) (hname : (fn.name == "runtime.NumGoroutine") = false)
    (hb : fn.body.isNone = true) (hn : Extern.findNext fn = none) (he : Extern.find fn = some Extern.BytealgCompare.compare) (n1 n2 : Bool) (a b : List Int) :
    CallOk P f [bts n1 a, bts n2 b] [] fun r st' => st' = [] ∧ r = vI .i64 (cmpI a b) := by
  intro χ G w vs hv hst hG
  obtain ⟨u1, r1, rfl, h1, u2, r2, rfl, h2, h3⟩ := hv
  have h3 : r2 = [] := h3
  subst h3
  refine .inr ⟨.int .i64 (cmpI a b), w, ?_, vI .i64 (cmpI a b), _, [], χ, G, ⟨rfl, rfl⟩, rfl, rfl, fun o ob ho => by simp at ho, ⟨rfl, rfl, rfl, Nat.le_refl _, fun b _ h => ⟨h, rfl⟩, fun b _ h => ⟨h, rfl⟩⟩, Nat.le_refl _, fun o ho => by simp at ho, fun o _ => hG o (Nat.zero_le _)⟩
  rw [run_callFunc_extern hf hname hb hn he]
  have e1 := run_bytesOf (P := P) h1
  have e2 := run_bytesOf (P := P) h2
  have : (Extern.BytealgCompare.compare #[u1, u2]).run P w = .ok (.int .i64 (cmpI a b)) w := by
    change Sem.run P (do pure (goInt (Extern.BytealgCompare.cmp (← Extern.Bytes.bytesOf u1) (← Extern.Bytes.bytesOf u2)))) w = _
    simp only [Sem.run_bind, Sem.run_pure, e1, e2, Result.andThen]
    rw [Lib.cmp_eq]
    rfl
  rw [show [u1, u2].toArray = #[u1, u2] from rfl, this]
  rfl
end
end Go.Sy
