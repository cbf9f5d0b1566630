/- Calls by contracts that tell their result. -/
import Derived.Test.YtlnmkolppgkglaaSyT
set_option linter.all false
set_option maxHeartbeats 4000000
namespace Go.Sy
open Go.RowKit

theorem CallIn.to {P : Program} {f : FuncId} {args args' : List SV} {st : List Ob} {R : Res} {v : SV} (h : CallOk P f args' [] fun r st' => st' = [] ∧ r = v) (ha : args.map (SV.fz st) = args' := by rfl) (hn : SV.inL 0 args' = true := by rfl)
    (hf : args' = args ∨ v.flat = true := by first | exact .inl rfl | exact .inr rfl) (k : R v st) : CallIn P f args st none R := by
  subst ha
  exact .pure (fun r => r = v) h hn (hf.imp id fun h r hr => by rw [hr]; exact h) fun r hr => by rw [hr]; exact k

theorem CallIn.dto {P : Program} {f : FuncId} {args args' : List SV} {st : List Ob} {q : SV → Prop} {R : Res} {v : SV} (h : CallOk P f args' [] fun r st' => st' = [] ∧ r = v) (ha : args.map (SV.fz st) = args' := by rfl) (hn : SV.inL 0 args' = true := by rfl)
    (hf : args' = args ∨ v.flat = true := by first | exact .inl rfl | exact .inr rfl) (hq : q = fun r => r = v := by rfl) (k : R v st) : CallIn P f args st (some q) R := by
  subst ha hq
  exact .draw h hn (hf.imp id fun h r hr => by rw [hr]; exact h) fun r hr => by rw [hr]; exact k

/-- A call that tells a truth: by its two ways. -/
theorem CallIn.tob {P : Program} {f : FuncId} {args args' : List SV} {st : List Ob} {R : Res} {c : Bool} (h : CallOk P f args' [] fun r st' => st' = [] ∧ r = vB c) (ha : args.map (SV.fz st) = args' := by rfl) (hn : SV.inL 0 args' = true := by rfl)
    (k : ∀ b : Bool, c = b → R (vB b) st) : CallIn P f args st none R := .to h ha hn (.inr rfl) (k c rfl)
theorem CallIn.dtob {P : Program} {f : FuncId} {args args' : List SV} {st : List Ob} {q : SV → Prop} {R : Res} {c : Bool} (h : CallOk P f args' [] fun r st' => st' = [] ∧ r = vB c) (ha : args.map (SV.fz st) = args' := by rfl) (hn : SV.inL 0 args' = true := by rfl)
    (hq : q = fun r => r = vB c := by rfl) (k : ∀ b : Bool, c = b → R (vB b) st) : CallIn P f args st (some q) R := .dto h ha hn (.inr rfl) hq (k c rfl)

/-- A call whose result is one of some. -/
theorem CallIn.top {P : Program} {f : FuncId} {args args' : List SV} {st : List Ob} {R : Res} {q : SV → Prop} (h : CallOk P f args' [] fun r st' => st' = [] ∧ q r) (ha : args.map (SV.fz st) = args' := by rfl) (hn : SV.inL 0 args' = true := by rfl)
    (hf : args' = args ∨ ∀ r, q r → r.flat = true := by exact .inl rfl) (k : ∀ r, q r → R r st) : CallIn P f args st none R := by
  subst ha
  exact .pure q h hn hf k

/-- A call on objects. -/
theorem CallIn.o {P : Program} {f : FuncId} {args : List SV} {st : List Ob} {R : Res} (ids : List Nat) {args' : List SV} {obs : List Ob} {Q : Res} (h : CallOk P f args' obs Q) (hn : decide ids.Nodup = true := by rfl) (hi : (ids.all fun i => decide (i < st.length)) = true := by rfl)
    (ha : args = SV.rnL (fun j => ids.getD j 0) args' := by rfl) (hb : SV.inL ids.length args' = true := by rfl)
    (ho : ids.map (fun i => st.getD i .gone) = obs.map (Ob.rn fun j => ids.getD j 0) := by rfl) (hob : obs.all (Ob.inn ids.length) = true := by rfl)
    (k : ∀ r st', Q r st' → R (r.rn (backN ids st.length)) (backSt ids st st')) : CallIn P f args st none R :=
  .obj ids args' obs Q (of_decide_eq_true hn) (fun i h' => of_decide_eq_true (List.all_eq_true.1 hi i h')) ha hb ho hob h k

theorem CallOk.conv {P : Program} {f : FuncId} {args args' : List SV} {st st0 : List Ob} {Q : Res} (h : CallOk P f args st Q) (e : args = args') (e2 : st = st0) : CallOk P f args' st0 Q := by rw [← e, ← e2]; exact h

end Go.Sy
