/- Nothing, as a row of one's own that is empty yet. -/
import Derived.Test.YtlnmkolppgkglaaSyU
set_option linter.all false
set_option maxHeartbeats 4000000
namespace Go.Sy
open Go.RowKit

theorem Rel.ghost {E : Ent} {env : List SV} {st : List Ob} {a : Act} {w : World} (h : Rel E ⟨env, st⟩ a w) (d : Nat) (e sz : Nat) (hd : env.getD d .dead = .pure (.list sz true [])) :
    Rel E ⟨env.set d (.vref st.length 0), st ++ [.vec 0 e sz true []]⟩ a w := by
  obtain ⟨χ, G, hf⟩ := h
  have hf : Fits E χ G ⟨env, st⟩ a w := hf
  have hu := hf.1.get d
  rw [hd] at hu
  obtain ⟨A, c, us, h1, h2, h3, h4, h5, h6, h7⟩ := hu
  have hA : A = none := h5.1 rfl
  have hc := h4 hA
  subst hA hc
  obtain ⟨χ', g1, g2⟩ := hf.newVec (e := e) (sz := sz) (w' := w) (hd := .slice none 0 0) (nl := true) (xs := []) (us := []) rfl rfl rfl (Nat.le_refl _) (fun _ _ => rfl) ⟨by simp, .inl ⟨rfl, rfl⟩⟩ rfl (by simp) (fun g hg => by cases hg)
  obtain ⟨k1, k2, k3, k4, k5, k6, k7⟩ := g1
  refine ⟨χ', _, RTL_set_any k1 d ?_, k2, k3, k4, k5, k6, k7⟩
  rw [h1]
  exact g2

/-- A loop's start, where a slot holds nothing. -/
theorem hand_ghost {P : Program} {k : Kx} {c : Code} {env : List SV} {st : List Ob} {Q : Exit → St → Prop} (d e sz : Nat) (hd : env.getD d .dead = .pure (.list sz true []))
    (h : Hand P k c ⟨env.set d (.vref st.length 0), st ++ [.vec 0 e sz true []]⟩ Q) : Hand P k c ⟨env, st⟩ Q := by
  obtain ⟨h⟩ := h
  exact ⟨fun E a w hE hr => h E a w hE (hr.ghost d e sz hd)⟩

theorem isEmpty_snoc {α : Type} (b : Bool) (l : List α) (x : α) : (b && [x].isEmpty) = (l ++ [x]).isEmpty := by simp

end Go.Sy
namespace Go.Sy
open Go.RowKit
/-- A slot that names a row which nobody writes any more. -/
def fzAt (o n : Nat) (p : PV) (s : SV) : SV :=
  match s with
  | .vref o' n' => if (o' == o && n' == n) = true then .pure p else s
  | s => s

theorem Rel.freeze {E : Ent} {env : List SV} {st : List Ob} {a : Act} {w : World} (h : Rel E ⟨env, st⟩ a w) {o n e sz : Nat} {nl : Bool} {xs : List PV} (ho : st[o]? = some (.vec n e sz nl xs)) :
    Rel E ⟨env.map (fzAt o n (.list sz nl xs)), st.set o (.fro n sz nl xs)⟩ a w := by
  obtain ⟨χ, G, hf⟩ := h
  have hf : Fits E χ G ⟨env, st⟩ a w := hf
  obtain ⟨χ', hd, g1, g2, g3, g4⟩ := hf.freeze ho
  obtain ⟨k1, k2, k3, k4, k5, k6, k7⟩ := g1
  refine ⟨χ', G, ?_, k2, k3, k4, k5, k6, k7⟩
  have key : ∀ (env : List SV) (us : List Value), RTL χ' w G env us → RTL χ' w G (env.map (fzAt o n (.list sz nl xs))) us := by
    intro env
    induction env with
    | nil => intro us h; exact h
    | cons s env ih =>
      rintro us ⟨u, r, rfl, h1, h2⟩
      refine ⟨u, r, rfl, ?_, ih r h2⟩
      unfold fzAt
      split
      · rename_i o' n'
        split
        · rename_i hon
          simp only [Bool.and_eq_true, beq_iff_eq] at hon
          obtain ⟨rfl, rfl⟩ := hon
          obtain ⟨_, m, hd', e1, e2, e3⟩ := h1
          rw [g3] at e1
          cases e1
          rw [e3 rfl]
          exact g4
        · exact h1
      · exact h1
  exact key _ _ k1

theorem rest_frz {P : Program} {k : Kx} {c : Code} {env : List SV} {st : List Ob} {Q : Exit → St → Prop} (o : Nat) {n e sz : Nat} {nl : Bool} {xs : List PV} (ho : st[o]? = some (.vec n e sz nl xs))
    (h : Rest P k c ⟨env.map (fzAt o n (.list sz nl xs)), st.set o (.fro n sz nl xs)⟩ Q) : Rest P k c ⟨env, st⟩ Q := by
  obtain ⟨h⟩ := h
  exact ⟨fun E a w hE hr => h E a w hE (hr.freeze ho)⟩
end Go.Sy
namespace Go.Sy
/-- A truth that is known. -/
theorem onB_true {c : Bool} {R : Bool → Prop} (h : c = true) (k : R true) : onB c R := by subst h; exact k
theorem onB_false {c : Bool} {R : Bool → Prop} (h : c = false) (k : R false) : onB c R := by subst h; exact k
theorem onB_cases {c : Bool} {R : Bool → Prop} (h : ∀ b, c = b → R b) : onB c R := by cases c; exact h false rfl; exact h true rfl
end Go.Sy
namespace Go.Sy
open Go.RowKit
theorem CallIn.tox {P : Program} {f : FuncId} {args : List SV} {st : List Ob} {R : Res} {v : SV} (h : CallOk P f (args.map (SV.fz st)) [] fun r st' => st' = [] ∧ r = v) (hn : SV.inL 0 (args.map (SV.fz st)) = true := by rfl)
    (hf : args.map (SV.fz st) = args ∨ v.flat = true := by first | exact .inl rfl | exact .inr rfl) (k : R v st) : CallIn P f args st none R :=
  .pure (fun r => r = v) h hn (hf.imp id fun h r hr => by rw [hr]; exact h) fun r hr => by rw [hr]; exact k
end Go.Sy
