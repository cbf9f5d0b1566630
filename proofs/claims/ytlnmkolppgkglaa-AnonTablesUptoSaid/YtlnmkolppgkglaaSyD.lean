/- The walk over symbolic states: operations, regions, code; calls by their contracts. -/
import Derived.Test.YtlnmkolppgkglaaSyC
set_option linter.all false
set_option maxHeartbeats 4000000
namespace Go.Sy
open Go.RowKit

/-- A function with a body. -/
def isFn (P : Program) (f : FuncId) : Prop := ∃ fn, P.funcs[f]? = some fn ∧ fn.body.isSome = true ∧ (fn.name == "runtime.NumGoroutine") = false

/-- A call runs its function's body, or it is answered at once (a function of the library that has no body). -/
def RunsTo (P : Program) (f : FuncId) (args : Array Value) (w : World) (R : Ending → World → Prop) : Prop :=
  (isFn P f ∧ Calls P f args w R) ∨ ∃ v w', (callFunc f args).run P w = .ok (.value v) w' ∧ R (.returned v) w'

/-- **What a call does**: from whatever state the arguments and the objects stand in. -/
def CallOk (P : Program) (f : FuncId) (args : List SV) (st : List Ob) (Q : Res) : Prop :=
  ∀ (χ : Nat → Color) (G : Gh) (w : World) (vs : List Value), RTL χ w G args vs → RSt χ w G st → (∀ o, st.length ≤ o → G o = none) →
    RunsTo P f vs.toArray w fun e w' => ∃ r v st' χ' G', Q r st' ∧ e = .returned v ∧ RS χ' w' G' r v ∧ RSt χ' w' G' st' ∧ Fr χ w χ' w' ∧ st.length ≤ st'.length ∧ GLe st.length G G' ∧ (∀ o, st'.length ≤ o → G' o = none)

/-- No memory in it. -/
def SV.flat : SV → Bool
  | .pure (.val _) => true
  | .tup cs => cs.all fun | .pure (.val _) => true | _ => false
  | _ => false

/-- A vec read as the list that it is. -/
def SV.fz (st : List Ob) : SV → SV
  | .vref o n => match st[o]? with
    | some (.vec m _ sz nl xs) => if n = m then .pure (.list sz nl xs) else .vref o n
    | some (.fro m sz nl xs) => if n = m then .pure (.list sz nl xs) else .vref o n
    | _ => .vref o n
  | .sref o k n => match st[o]? with
    | some (.row _ m xs) => if k + n ≤ m then .pure (.list 1 false ((xs.drop k).take n)) else .sref o k n
    | _ => .sref o k n
  | .ptr o k => match st[o]? with
    | some (.cells _ cs) => match SV.pvL st cs with
      | some ps => .ipt (ps.drop k)
      | none => .ptr o k
    | _ => .ptr o k
  | s => s

mutual
def SV.rn (m : Nat → Nat) : SV → SV
  | .pure p => .pure p
  | .ptr o k => .ptr (m o) k
  | .vref o n => .vref (m o) n
  | .eptr o n sz i off => .eptr (m o) n sz i off
  | .ipt cs => .ipt cs
  | .mref o => .mref (m o)
  | .agg cs => .agg (SV.rnL m cs)
  | .tup cs => .tup (SV.rnL m cs)
  | .clo f cs => .clo f (SV.rnL m cs)
  | .dead => .dead
  | .lit sz xs => .lit sz xs
  | .sref o k n => .sref (m o) k n
  | .yld o => .yld (m o)
  | .bnd f cs => .bnd f (SV.rnL m cs)
def SV.rnL (m : Nat → Nat) : List SV → List SV
  | [] => []
  | c :: cs => c.rn m :: SV.rnL m cs
end
mutual
/-- It names objects below k alone. -/
def SV.inn (k : Nat) : SV → Bool
  | .pure _ | .ipt _ | .dead | .lit _ _ => true
  | .ptr o _ | .vref o _ | .eptr o _ _ _ _ | .mref o | .sref o _ _ | .yld o => decide (o < k)
  | .agg cs | .tup cs | .clo _ cs | .bnd _ cs => SV.inL k cs
def SV.inL (k : Nat) : List SV → Bool
  | [] => true
  | c :: cs => c.inn k && SV.inL k cs
end
def Ob.rn (m : Nat → Nat) : Ob → Ob
  | .cells t cs => .cells t (SV.rnL m cs)
  | .loop env ps asg body s pend => .loop (SV.rnL m env) ps asg body s pend
  | o => o
def Ob.inn (k : Nat) : Ob → Bool
  | .cells _ cs => SV.inL k cs
  | .loop env _ _ _ _ _ => SV.inL k env
  | _ => true

/-- The callee's numbers of objects, in the caller. -/
def backN (ids : List Nat) (n : Nat) (j : Nat) : Nat := if j < ids.length then ids.getD j 0 else n + (j - ids.length)
/-- The caller's store behind the call. -/
def putAll (m : Nat → Nat) : List Nat → List Ob → List Ob → List Ob
  | [], _, st => st
  | i :: ids, ob :: obs, st => putAll m ids obs (st.set i (ob.rn m))
  | _, [], st => st
def backSt (ids : List Nat) (st st' : List Ob) : List Ob :=
  putAll (backN ids st.length) ids st' st ++ (st'.drop ids.length).map (Ob.rn (backN ids st.length))

/-- A call, by a contract. In a region that draws its order (some q) it makes nothing and its result is told ahead. -/
inductive CallIn (P : Program) (f : FuncId) (args : List SV) (st : List Ob) : Option (SV → Prop) → Res → Prop
  | draw {q : SV → Prop} {R : Res} (h : CallOk P f (args.map (SV.fz st)) [] fun r st' => st' = [] ∧ q r) (hn : SV.inL 0 (args.map (SV.fz st)) = true) (hf : args.map (SV.fz st) = args ∨ ∀ r, q r → r.flat = true) (k : ∀ r, q r → R r st) : CallIn P f args st (some q) R
  | pure {R : Res} (q : SV → Prop) (h : CallOk P f (args.map (SV.fz st)) [] fun r st' => st' = [] ∧ q r) (hn : SV.inL 0 (args.map (SV.fz st)) = true) (hf : args.map (SV.fz st) = args ∨ ∀ r, q r → r.flat = true) (k : ∀ r, q r → R r st) : CallIn P f args st none R
  | obj {R : Res} (ids : List Nat) (args' : List SV) (obs : List Ob) (Q : Res) (hn : ids.Nodup) (hi : ∀ i ∈ ids, i < st.length) (ha : args = SV.rnL (fun j => ids.getD j 0) args') (hb : SV.inL ids.length args' = true)
      (ho : ids.map (fun i => st.getD i .gone) = obs.map (Ob.rn fun j => ids.getD j 0)) (hob : obs.all (Ob.inn ids.length) = true)
      (h : CallOk P f args' obs Q) (k : ∀ r st', Q r st' → R (r.rn (backN ids st.length)) (backSt ids st st')) : CallIn P f args st none R

/-- **What a round of a range over a function does**, where the first object is the loop's record, and it is ready. -/
def RoundOk (P : Program) (args : List SV) (obs : List Ob) (Q : Res) : Prop :=
  ∃ env ps asg body pend rest, obs = .loop env ps asg body .ready pend :: rest ∧ args.length = ps.size ∧
    ∀ (χ : Nat → Color) (G : Gh) (w : World) (vs : List Value), RTL χ w G args vs → RSt χ w G obs → (∀ o, obs.length ≤ o → G o = none) →
    ∀ (l : Nat) (us : List Value) (fn : FuncId) (D : Nat), G 0 = some (.fix l) → χ l = .own 0 → w.heap[l]? = some (.loop { state := .ready, pending := pend, fn := fn, tmps := us.toArray, params := ps, assign := asg, body := body, defers := D }) → RTL χ w G env us →
      RoundIn { Fence.wide with round := none } 0 P l fn ((ps.zip vs.toArray).foldl (fun tmps (t, a) => tmps.setIfInBounds t a) us.toArray) asg body w
        fun e w' => ∃ r v st' χ' G', Q r st' ∧ e = .returned v ∧ RS χ' w' G' r v ∧ RSt χ' w' G' st' ∧ Fr χ w χ' w' ∧ obs.length ≤ st'.length ∧ GLe obs.length G G' ∧ (∀ o, st'.length ≤ o → G' o = none)

/-- A call of a loop's yield, by a round's contract. -/
inductive YieldIn (P : Program) (o : Nat) (args : List SV) (st : List Ob) (R : Res) : Prop
  | mk (ids : List Nat) (args' : List SV) (obs : List Ob) (Q : Res) (hn : ids.Nodup) (hi : ∀ i ∈ ids, i < st.length) (h0 : ids.head? = some o) (ha : args = SV.rnL (fun j => ids.getD j 0) args') (hb : SV.inL ids.length args' = true)
      (ho : ids.map (fun i => st.getD i .gone) = obs.map (Ob.rn fun j => ids.getD j 0)) (hob : obs.all (Ob.inn ids.length) = true)
      (h : RoundOk P args' obs Q) (k : ∀ r st', Q r st' → R (r.rn (backN ids st.length)) (backSt ids st st')) : YieldIn P o args st R

def argsOf (P : Program) (ρ : Operand → SV) (c : Call) : List SV := (c.args.toList.zip c.argTypes.toList).map fun (x, t) => nilAt P t (ρ x)

/-- Is this temporary handed to an append as what is appended, or to a call? -/
def handed (ops : Array Oper) (d : Option Tmp) : Bool :=
  match d with
  | none => true
  | some d => ops.toList.any fun o => match o.op with
    | .call c => match c.callee with
      | .builtin .append => match c.args.toList with | _ :: .tmp t :: _ => t == d | _ => false
      | .value _ => c.args.toList.any fun | .tmp t => t == d | _ => false
      | _ => false
    | _ => false

def vcOp (P : Program) (ops : Array Oper) (o : Oper) (ρ : Operand → SV) (st : List Ob) (q : Option (SV → Prop)) (R : Res) : Prop :=
  match o.op with
  | .move x | .assign x => R (nilAt P o.type (ρ x)) st
  | .pick c a b => match ρ c with
    | .pure (.val (.bool t)) => match t with | true => R (ρ a) st | false => R (ρ b) st
    | _ => False
  | .binOp op t x y _ => vcBin P op t (ρ x) (ρ y) fun s => R s st
  | .unOp op _ x => vcUn op (ρ x) fun s => R s st
  | .convert s d x => vcConv P s d (ρ x) st fun s => R s st
  | .extract t i => match ρ t with
    | .tup cs => must (decide (i < cs.length)) <| R (cs.getD i .dead) st
    | _ => False
  | .nilCheck x => match ρ x with
    | .ptr o k => R (.ptr o k) st
    | _ => False
  | .indexAddr t x i => vcIndexAddr P t (ρ x) (ρ i) st fun s => R s st
  | .index t x i => vcIndex P t (ρ x) (ρ i) fun s => R s st
  | .load t x => vcLoad P t (ρ x) st fun s => R s st
  | .box t x => must q.isNone <| vcBox t (nilAt P t (ρ x)) st R
  | .alloc t => must q.isNone <| vcAlloc P t st R
  | .build t parts => vcBuild P t (parts.toList.map fun (i, x) => (i, ρ x)) fun s => R s st
  | .buildSlice t len parts => vcBuildSlice P q.isSome t len (parts.toList.map fun (i, x) => (i, ρ x)) (q.isNone && !handed ops o.dst) st R
  | .slice t x lo hi mx => must mx.isNone <| vcSlice P q.isSome t (ρ x) (lo.map ρ) (hi.map ρ) st R
  | .makeSlice t l c => must q.isNone <| vcMakeSlice P t (ρ l) (ρ c) st R
  | .store t x v => must q.isNone <| vcStore P t (ρ x) (nilAt P t (ρ v)) st R
  | .fieldAddr t x f => vcFieldAddr P t (ρ x) f fun s => R s st
  | .field t x f => vcField P t (ρ x) f fun s => R s st
  | .call c =>
    match c.callee with
    | .builtin .len => match c.args.toList, c.argTypes.toList with
      | [x], [t] => vcLen P t (ρ x) st fun s => R s st
      | _, _ => False
    | .builtin .append => match c.args.toList, c.argTypes.toList with
      | [s, x], [t, t'] => match q with
        | none => vcAppend P t t' (ρ s) (ρ x) st R
        | some _ => vcAppendQ P t t' (ρ s) (ρ x) st fun s => R s st
      | _, _ => False
    | .builtin .copy => must q.isNone <| match c.args.toList, c.argTypes.toList with
      | [d, x], [t, _] => vcCopy P t (ρ d) (ρ x) st R
      | _, _ => False
    | .builtin .clear => must q.isNone <| match c.args.toList, c.argTypes.toList with
      | [x], [t] => vcClear P t (ρ x) st R
      | _, _ => False
    | .builtin .min => match c.args.toList with
      | [x, y] => vcMin (ρ x) (ρ y) fun s => R s st
      | _ => False
    | .builtin .max => match c.args.toList with
      | [x, y] => vcMax (ρ x) (ρ y) fun s => R s st
      | _ => False
    | .value f => must (c.args.size == c.argTypes.size) <| match ρ f with
      | .pure (.val (.func (.func g) ⟨[]⟩ ⟨[]⟩)) => CallIn P g (argsOf P ρ c) st q R
      | .clo g caps => CallIn P g (argsOf P ρ c ++ caps) st q R
      | .bnd g first => CallIn P g (first ++ argsOf P ρ c) st q R
      | .yld o => must q.isNone <| YieldIn P o (argsOf P ρ c) st R
      | _ => False
    | _ => False
  | .makeFunc fn first caps =>
    match fn with
    | .func g => match first.toList with
      | [] => R (.clo g (caps.toList.map ρ)) st
      | x :: r => must (caps.size == 0) <| R (.bnd g ((x :: r).map ρ)) st
    | _ => False
  | _ => False

/-- A value laid open, so that it is reckoned once. -/
def forceV (s : SV) (K : SV → Prop) : Prop :=
  match s with
  | .pure p => match p with
    | .val v => K (.pure (.val v))
    | .agg cs => K (.pure (.agg cs))
    | .list sz nl xs => K (.pure (.list sz nl xs))
  | .ptr o k => K (.ptr o k)
  | .vref o n => K (.vref o n)
  | .eptr o n sz i off => K (.eptr o n sz i off)
  | .ipt cs => K (.ipt cs)
  | .mref o => K (.mref o)
  | .agg cs => K (.agg cs)
  | .tup cs => K (.tup cs)
  | .clo f cs => K (.clo f cs)
  | .dead => K .dead
  | .lit sz xs => K (.lit sz xs)
  | .sref o k n => K (.sref o k n)
  | .yld o => K (.yld o)
  | .bnd f cs => K (.bnd f cs)
theorem forceV_iff {s : SV} {K : SV → Prop} : forceV s K ↔ K s := by
  cases s with
  | pure p => cases p <;> exact Iff.rfl
  | _ => exact Iff.rfl
def forceL {α : Type} : List α → (List α → Prop) → Prop
  | [], K => K []
  | x :: xs, K => forceL xs fun ys => K (x :: ys)
theorem forceL_iff {α : Type} : ∀ {l : List α} {K : List α → Prop}, forceL l K ↔ K l
  | [], K => Iff.rfl
  | x :: xs, K => by unfold forceL; exact forceL_iff
def forceOb (ob : Ob) (K : Ob → Prop) : Prop :=
  match ob with
  | .cells t cs => forceL cs fun cs => K (.cells t cs)
  | .vec n e sz nl xs => K (.vec n e sz nl xs)
  | .fro n sz nl xs => K (.fro n sz nl xs)
  | .gone => K .gone
  | .row t n xs => K (.row t n xs)
  | .loop env ps asg body s pend => K (.loop env ps asg body s pend)
  | .map es => K (.map es)
theorem forceOb_iff {ob : Ob} {K : Ob → Prop} : forceOb ob K ↔ K ob := by
  cases ob with
  | cells t cs => exact forceL_iff
  | _ => exact Iff.rfl
def forceSt : List Ob → (List Ob → Prop) → Prop
  | [], K => K []
  | x :: xs, K => forceOb x fun x => forceSt xs fun ys => K (x :: ys)
theorem forceSt_iff : ∀ {l : List Ob} {K : List Ob → Prop}, forceSt l K ↔ K l
  | [], K => Iff.rfl
  | x :: xs, K => by unfold forceSt; rw [forceOb_iff]; exact forceSt_iff
/-- The state behind an operation. -/
def putK (env : List SV) (st : List Ob) (d : Option Tmp) (s : SV) (K : St → Prop) : Prop :=
  match d with
  | some d => forceV s fun s => forceSt st fun st => forceL (env.set d s) fun env => K ⟨env, st⟩
  | none => forceSt st fun st => K ⟨env, st⟩
theorem putK_iff {env : List SV} {st : List Ob} {d : Option Tmp} {s : SV} {K : St → Prop} : putK env st d s K ↔ K (St.put ⟨env, st⟩ d s) := by
  cases d with
  | none => exact forceSt_iff
  | some d => unfold putK; simp only [forceV_iff, forceSt_iff, forceL_iff]; exact Iff.rfl

/-- One operation, its guard ahead. -/
def vcGuard (P : Program) (ops : Array Oper) (o : Oper) (σ : St) (q : Option (SV → Prop)) (K : St → Prop) : Prop :=
  match o.guard with
  | none => vcOp P ops o σ.ev σ.st q fun s st' => putK σ.env st' o.dst s K
  | some (j, b) =>
    match (ops[j]?).bind (·.dst) with
    | none => False
    | some d => match σ.env.getD d .dead with
      | .pure (.val (.bool t)) =>
        match t == b with
        | true => vcOp P ops o σ.ev σ.st q fun s st' => putK σ.env st' o.dst s K
        | false => putK σ.env σ.st o.dst (.tup []) K
      | .tup [] => putK σ.env σ.st o.dst (.tup []) K
      | _ => False

/-- A region that draws its order, in the text's order: the first m operations leave the objects alone. -/
def vcDraw (P : Program) (ops : Array Oper) (m : Nat) (qs : Nat → SV → Prop) : Nat → List Oper → St → (St → Prop) → Prop
  | _, [], σ, K => K σ
  | i, o :: rest, σ, K => vcGuard P ops o σ (if i < m then some (qs i) else none) fun σ' => vcDraw P ops m qs (i + 1) rest σ' K

def vcOps (P : Program) (ops : Array Oper) : List Oper → St → (St → Prop) → Prop
  | [], σ, K => K σ
  | o :: rest, σ, K => vcGuard P ops o σ none fun σ' => vcOps P ops rest σ' K

/-- Nothing is fenced; a round's frame is told of. -/
abbrev FW (ro : Option Nat) : Fence := { Fence.wide with round := ro }

/-- A symbolic state's own condition on a piece of code; k objects came in. -/
def awp (P : Program) (k : Kx) (c : Code) (σ : St) (Q : Exit → St → Prop) : Prop :=
  ∀ (E : Ent) (a : Act) (w : World), E.k = k → Rel E σ a w → c.wpIn (FW E.ro) 0 P (fun e a' w' => ∃ σ', Q e σ' ∧ Rel E σ' a' w') a w

/-- To be shown by hand. -/
inductive Hand (P : Program) (k : Kx) (c : Code) (σ : St) (Q : Exit → St → Prop) : Prop
  | mk (h : awp P k c σ Q)

/-- The next piece of code: a barrier, so that the walk halts between two pieces. -/
inductive Rest (P : Program) (k : Kx) (c : Code) (σ : St) (Q : Exit → St → Prop) : Prop
  | mk (h : awp P k c σ Q)

def vc (P : Program) (k : Kx) : Code → St → (Exit → St → Prop) → Prop
  | .skip, σ, Q => Q .normal σ
  | .seq a b, σ, Q => vc P k a σ fun e σ' => match e with | .normal => Rest P k b σ' Q | e => Q e σ'
  | .cond c a b, σ, Q => match σ.ev c with
    | .pure (.val (.bool t)) => match t with | true => vc P k a σ Q | false => vc P k b σ Q
    | _ => False
  | .block id c, σ, Q => vc P k c σ fun e σ' => match e with | .exit i => if i = id then Q .normal σ' else Q (.exit i) σ' | e => Q e σ'
  | .exit id, σ, Q => Q (.exit id) σ
  | .ret, σ, Q => Q .ret σ
  | .region _ ops false, σ, Q => vcOps P ops ops.toList σ (Q .normal)
  | c, σ, Q => Hand P k c σ Q

end Go.Sy
