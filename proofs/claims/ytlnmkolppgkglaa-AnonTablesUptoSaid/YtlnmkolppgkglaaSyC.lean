/- The conditions under which an operation goes through, and what it leaves, over symbolic states. -/
import Derived.Test.YtlnmkolppgkglaaSyB
set_option linter.all false
set_option maxHeartbeats 4000000
namespace Go.Sy
open Go.RowKit

abbrev vI (k : IntKind) (n : Int) : SV := .pure (.val (.int k n))
abbrev vB (b : Bool) : SV := .pure (.val (.bool b))
abbrev vS (s : ByteArray) : SV := .pure (.val (.string s))

def szOf (P : Program) (t : TypeId) : Nat := ((P.info? t).map (·.size)).getD 0
/-- The size of a slice type's elements. -/
def eszOf (P : Program) (t : TypeId) : Nat := match P.underlying t with | some (.slice e) => szOf P e | _ => 0

def ofV1 : Value → PV
  | .slice none 0 0 => .list 0 true []
  | v => .val v
def ofV : Value → PV
  | .agg cs => if cs.toList.all (fun u => u.oneCell') then .agg (cs.toList.map ofV1) else .val (.agg cs)
  | v => ofV1 v

def nilAt (P : Program) (t : TypeId) : SV → SV
  | .pure (.list 0 true []) => .pure (.list (eszOf P t) true [])
  | .lit sz xs => .pure (.list sz false xs)
  | s => s

/-- An operand, in a frame. -/
def St.ev (σ : St) : Operand → SV
  | .tmp t => σ.env.getD t .dead
  | .const v => .pure (ofV v)
  | .global g => .dead
  | .func f => .pure (.val (.func (.func f) #[] #[]))

def St.put (σ : St) (d : Option Tmp) (s : SV) : St :=
  match d with
  | some d => { σ with env := σ.env.set d s }
  | none => σ

/-- A list of parts: pure if each is. -/
def pures : List SV → Option (List PV)
  | [] => some []
  | .pure p :: r => (pures r).map (p :: ·)
  | _ => none
def mkAgg (l : List SV) : SV := match pures l with | some ps => .pure (.agg ps) | none => .agg l

/-- A value's cells. -/
def PV.cells : PV → List PV
  | .agg cs => cs
  | .val (.agg cs) => cs.toList.map .val
  | p => [p]
def SV.cells : SV → List SV
  | .pure p => p.cells.map .pure
  | .agg cs => cs
  | s => [s]
/-- Its cells hold one value each. -/
def PV.one : PV → Bool
  | .val v => v.cells.toList.all fun u => u.oneCell'
  | _ => true
def SV.one : SV → Bool
  | .pure p => p.one
  | .dead | .tup _ => false
  | _ => true

abbrev Res := SV → List Ob → Prop

/-- What must hold, by reckoning. -/
def must (b : Bool) (K : Prop) : Prop := match b with | true => K | false => False
theorem must_iff {b : Bool} {K : Prop} : must b K ↔ b = true ∧ K := by cases b <;> simp [must]

/-! The operations on bits, under names of their own. -/
def iShl (k : IntKind) (a b : Int) : Int := k.wrap (a * 2 ^ (min b.toNat k.bits))
def iShr (k : IntKind) (a b : Int) : Int := a.fdiv (2 ^ (min b.toNat k.bits))
def iAnd (k : IntKind) (a b : Int) : Int := k.wrap (BitVec.ofInt k.bits a &&& BitVec.ofInt k.bits b).toNat
def iOr (k : IntKind) (a b : Int) : Int := k.wrap (BitVec.ofInt k.bits a ||| BitVec.ofInt k.bits b).toNat
def iXor (k : IntKind) (a b : Int) : Int := k.wrap (BitVec.ofInt k.bits a ^^^ BitVec.ofInt k.bits b).toNat
def iAndNot (k : IntKind) (a b : Int) : Int := k.wrap (BitVec.ofInt k.bits a &&& ~~~(BitVec.ofInt k.bits b)).toNat

/-- By a truth that is split once. -/
def onB (c : Bool) (R : Bool → Prop) : Prop := match c with | true => R true | false => R false
theorem onB_iff {c : Bool} {R : Bool → Prop} : onB c R ↔ R c := by cases c <;> exact Iff.rfl

def vcBin (P : Program) (op : BinOp) (t : TypeId) (x y : SV) (R : SV → Prop) : Prop :=
  match x, y with
  | .pure (.val (.int k a)), .pure (.val (.int k' b)) =>
    match op with
    | .shl => 0 ≤ b ∧ R (vI k (iShl k a b))
    | .shr => 0 ≤ b ∧ R (vI k (iShr k a b))
    | .add => must (decide (k = k')) <| R (vI k (k.wrap (a + b)))
    | .sub => must (decide (k = k')) <| R (vI k (k.wrap (a - b)))
    | .mul => must (decide (k = k')) <| R (vI k (k.wrap (a * b)))
    | .quo => must (decide (k = k')) <| b ≠ 0 ∧ R (vI k (k.wrap (a.tdiv b)))
    | .rem => must (decide (k = k')) <| b ≠ 0 ∧ R (vI k (a.tmod b))
    | .and => must (decide (k = k')) <| R (vI k (iAnd k a b))
    | .or => must (decide (k = k')) <| R (vI k (iOr k a b))
    | .xor => must (decide (k = k')) <| R (vI k (iXor k a b))
    | .andNot => must (decide (k = k')) <| R (vI k (iAndNot k a b))
    | .eql => must (decide (k = k')) <| onB (a == b) fun b => R (vB b)
    | .neq => must (decide (k = k')) <| onB (a != b) fun b => R (vB b)
    | .lss => must (decide (k = k')) <| onB (decide (a < b)) fun b => R (vB b)
    | .leq => must (decide (k = k')) <| onB (decide (a ≤ b)) fun b => R (vB b)
    | .gtr => must (decide (k = k')) <| onB (decide (a > b)) fun b => R (vB b)
    | .geq => must (decide (k = k')) <| onB (decide (a ≥ b)) fun b => R (vB b)
  | .pure (.val (.string a)), .pure (.val (.string b)) =>
    match op with
    | .add => ((a.size + b.size : Nat) : Int) ≤ 9223372036854775807 ∧ R (vS (a ++ b))
    | .eql => onB (a.toList == b.toList) fun b => R (vB b)
    | .neq => onB (!(a.toList == b.toList)) fun b => R (vB b)
    | .lss => onB (Op.bytesLess a.toList b.toList) fun b => R (vB b)
    | .leq => onB (Op.bytesLess a.toList b.toList || a.toList == b.toList) fun b => R (vB b)
    | .gtr => onB (!(Op.bytesLess a.toList b.toList || a.toList == b.toList)) fun b => R (vB b)
    | .geq => onB (!(Op.bytesLess a.toList b.toList)) fun b => R (vB b)
    | _ => False
  | .pure (.val (.bool a)), .pure (.val (.bool b)) =>
    must (match P.underlying t with | some .bool => true | _ => false) <|
    match op with
    | .eql => onB (a == b) fun b => R (vB b)
    | .neq => onB (!(a == b)) fun b => R (vB b)
    | _ => False
  | .pure (.list _ nl _), .pure (.list 0 true []) =>
    must (eszOf P t != 0) <|
    match op with
    | .eql => onB nl fun b => R (vB b)
    | .neq => onB (!nl) fun b => R (vB b)
    | _ => False
  | _, _ => False

def vcUn (op : UnOp) (x : SV) (R : SV → Prop) : Prop :=
  match op, x with
  | .not, .pure (.val (.bool b)) => R (vB (!b))
  | .neg, .pure (.val (.int k n)) => R (vI k (k.wrap (0 - n)))
  | .xor, .pure (.val (.int k n)) => R (vI k (k.wrap (BitVec.ofInt k.bits (if k.signed then -1 else k.max) ^^^ BitVec.ofInt k.bits n).toNat))
  | _, _ => False

def isU8 (P : Program) (e : TypeId) : Bool := match P.underlying e with | some (.int .u8) => true | _ => false

/-- A slice's elements, by its object. -/
def look (st : List Ob) (o : Nat) : Option (Nat × Nat × Bool × List PV) :=
  match st[o]? with
  | some (.vec m _ sz nl xs) => some (m, sz, nl, xs)
  | some (.fro m sz nl xs) => some (m, sz, nl, xs)
  | _ => none
mutual
/-- The value alone, vecs read as lists. -/
def SV.pv (st : List Ob) : SV → Option PV
  | .pure p => some p
  | .vref o n => match look st o with
    | some (m, sz, nl, xs) => if n = m then some (.list sz nl xs) else none
    | none => none
  | .agg cs => match SV.pvL st cs with | some ps => some (.agg ps) | none => none
  | _ => none
def SV.pvL (st : List Ob) : List SV → Option (List PV)
  | [] => some []
  | c :: cs => match c.pv st, SV.pvL st cs with | some p, some ps => some (p :: ps) | _, _ => none
end
mutual
/-- The store once the vecs in a value are written no more. -/
def SV.frz : SV → List Ob → List Ob
  | .vref o n, st => match st[o]? with
    | some (.vec m e sz nl xs) => if n = m then st.set o (.fro m sz nl xs) else st
    | _ => st
  | .agg cs, st => SV.frzL cs st
  | _, st => st
def SV.frzL : List SV → List Ob → List Ob
  | [], st => st
  | c :: cs, st => SV.frzL cs (c.frz st)
end
/-- A value that goes where nobody writes. -/
def vcPure (qt : Bool) (s : SV) (st : List Ob) (K : PV → List Ob → Prop) : Prop :=
  match qt with
  | true => match s with
    | .pure p => K p st
    | _ => False
  | false => match s.pv st with
    | some p => K p (s.frz st)
    | none => False

/-- A slice's elements, wherever they lie. -/
def vcElems (x : SV) (st : List Ob) (K : Nat → List PV → Prop) : Prop :=
  match x with
  | .pure (.list sz nl xs) => K sz xs
  | .lit sz xs => K sz xs
  | .sref o k n => match st[o]? with
    | some (.row _ m xs) => must (decide (k + n ≤ m)) <| K 1 ((xs.drop k).take n)
    | _ => False
  | .vref o n => match st[o]? with
    | some (.vec m _ sz _ xs) => if n = m then K sz xs else False
    | some (.fro m sz _ xs) => if n = m then K sz xs else False
    | _ => False
  | _ => False

def vcConv (P : Program) (s d : TypeId) (x : SV) (st : List Ob) (R : SV → Prop) : Prop :=
  match x with
  | .pure (.val (.int _ n)) =>
    match P.underlying s, P.underlying d with
    | some (.int _), some (.int k) => R (vI k (k.wrap n))
    | _, _ => False
  | .pure (.val (.string a)) =>
    match P.underlying s, P.underlying d with
    | some .string, some .string => R (vS a)
    | some .string, some (.slice e) => must (isU8 P e) <| a.size ≤ 140737488355328 ∧ R (.pure (.list 1 false (a.data.toList.map fun c => .val (.int .u8 c.toNat))))
    | _, _ => False
  | x =>
    match P.underlying s, P.underlying d with
    | some (.slice e), some .string => must (isU8 P e) <| vcElems x st fun _ xs => (∃ l : List Int, xs = l.map fun n => .val (.int .u8 n)) ∧ ∀ l : List Int, (xs = l.map fun n => .val (.int .u8 n)) → R (vS (strOfNums l))
    | _, _ => False

def vcLen (P : Program) (t : TypeId) (x : SV) (st : List Ob) (R : SV → Prop) : Prop :=
  match P.underlying t with
  | some (.slice _) => match x with
    | .sref _ _ n => R (vI .i64 n)
    | x => vcElems x st fun _ xs => xs.length ≤ 9223372036854775807 → R (vI .i64 xs.length)
  | some .string => match x with
    | .pure (.val (.string s)) => R (vI .i64 s.size)
    | _ => False
  | some (.array n _) => R (vI .i64 n)
  | _ => False

/-- append(s, x...) -/
def vcAppend (P : Program) (t t' : TypeId) (s x : SV) (st : List Ob) (R : Res) : Prop :=
  match P.underlying t with
  | some (.slice e) =>
    match P.info? e with
    | some i =>
      must (t' == t && decide (0 < i.size) && decide (0 < i.bytes) && (match i.zero with | some z => z.cells.size == i.size | none => false)) <|
      vcElems x st fun sz' ys =>
        must (sz' == i.size || ys.isEmpty) <|
        match s with
        | .pure (.list _ true []) => ys.length * i.bytes ≤ 140737488355328 ∧ R (.vref st.length 0) (st ++ [.vec 0 e i.size ys.isEmpty ys])
        | .vref o n =>
          match st[o]? with
          | some (.vec m e' sz nl xs) =>
            must (e' == e && sz == i.size && n == m) <| (xs.length + ys.length) * i.bytes ≤ 140737488355328 ∧
              R (.vref o (n + 1)) (st.set o (.vec (n + 1) e sz (nl && ys.isEmpty) (xs ++ ys)))
          | _ => False
        | .lit sz xs => must (sz == i.size) <| (xs.length + ys.length) * i.bytes ≤ 140737488355328 ∧ (ys = [] → R (.lit sz xs) st) ∧ (ys ≠ [] → R (.vref st.length 0) (st ++ [.vec 0 e i.size false (xs ++ ys)]))
        | _ => False
    | none => False
  | _ => False

/-- append(s, x...) onto nothing or onto a row that is full, where nobody will write. -/
def vcAppendQ (P : Program) (t t' : TypeId) (s x : SV) (st : List Ob) (R : SV → Prop) : Prop :=
  match P.underlying t with
  | some (.slice e) =>
    match P.info? e with
    | some i =>
      must (t' == t && decide (0 < i.size) && decide (0 < i.bytes) && (match i.zero with | some z => z.cells.size == i.size | none => false)) <|
      vcElems x st fun sz' ys =>
        must (sz' == i.size || ys.isEmpty) <|
        match s with
        | .pure (.list _ true []) => ys.length * i.bytes ≤ 140737488355328 ∧ R (.pure (.list i.size ys.isEmpty ys))
        | .lit sz xs => must (sz == i.size) <| (xs.length + ys.length) * i.bytes ≤ 140737488355328 ∧ R (.pure (.list i.size false (xs ++ ys)))
        | _ => False
    | none => False
  | _ => False

def vcIndexAddr (P : Program) (t : TypeId) (x i : SV) (st : List Ob) (R : SV → Prop) : Prop :=
  match P.underlying t, i with
  | some (.slice e), .pure (.val (.int _ j)) =>
    match x with
    | .pure (.list sz nl xs) => must (sz == szOf P e && (P.info? e).isSome) <| (0 ≤ j ∧ j < xs.length) ∧ ∀ p, xs[j.toNat]? = some p → R (.ipt p.cells)
    | .vref o n =>
      match st[o]? with
      | some (.vec m _ sz _ xs) => must (sz == szOf P e && (P.info? e).isSome && n == m) <| (0 ≤ j ∧ j < xs.length) ∧ R (.eptr o n sz j.toNat 0)
      | some (.fro m sz _ xs) => must (sz == szOf P e && (P.info? e).isSome && n == m) <| (0 ≤ j ∧ j < xs.length) ∧ ∀ p, xs[j.toNat]? = some p → R (.ipt p.cells)
      | _ => False
    | .sref o k n => must (szOf P e == 1 && (P.info? e).isSome) <| (0 ≤ j ∧ j < n) ∧ R (.ptr o (k + j.toNat))
    | _ => False
  | some (.array n e), .pure (.val (.int _ j)) =>
    must (P.info? e).isSome <| (0 ≤ j ∧ j < n) ∧
    match x with
    | .ptr o k => R (.ptr o (k + j.toNat * szOf P e))
    | .ipt cs => R (.ipt (cs.drop (j.toNat * szOf P e)))
    | .eptr o m sz i off => R (.eptr o m sz i (off + j.toNat * szOf P e))
    | _ => False
  | _, _ => False

/-- Is a type kept in several cells? -/
def isAggT (P : Program) (t : TypeId) : Bool := match P.underlying t with | some (.struct _) => true | some (.array _ _) => true | _ => false

def vcLoad (P : Program) (t : TypeId) (x : SV) (st : List Ob) (R : SV → Prop) : Prop :=
  must ((P.underlying t).isSome && (P.info? t).isSome) <|
  match x with
  | .ipt cs => if isAggT P t then must (decide (szOf P t ≤ cs.length)) <| R (.pure (.agg (cs.take (szOf P t)))) else match cs with | c :: _ => R (.pure c) | [] => False
  | .ptr o k => match st[o]? with
    | some (.cells _ cs) => if isAggT P t then must (decide (k + szOf P t ≤ cs.length)) <| R (mkAgg ((cs.drop k).take (szOf P t))) else must (decide (k < cs.length)) <| R (cs.getD k .dead)
    | some (.row _ m xs) => if isAggT P t then must (decide (k + szOf P t ≤ m)) <| R (.pure (.agg ((xs.drop k).take (szOf P t)))) else k < m ∧ ∀ p, xs[k]? = some p → R (.pure p)
    | _ => False
  | .eptr o n sz i off => match st[o]? with
    | some (.vec m _ sz' _ xs) => must (sz == sz' && n == m) <| i < xs.length ∧ ∀ p, xs[i]? = some p →
        if isAggT P t then must (decide (off + szOf P t ≤ p.cells.length)) <| R (.pure (.agg ((p.cells.drop off).take (szOf P t)))) else must (decide (off < p.cells.length)) <| R (.pure (p.cells.getD off (.val undef)))
    | _ => False
  | _ => False

/-- Some cells of a row written. -/
def setAt {α : Type} (l : List α) (k : Nat) : List α → List α
  | [] => l
  | x :: r => setAt (l.set k x) (k + 1) r

def PV.setCells (p : PV) (off : Nat) (cs : List PV) : PV :=
  match p with
  | .agg ps => .agg (setAt ps off cs)
  | .val (.agg a) => .agg (setAt (a.toList.map .val) off cs)
  | _ => cs.getD 0 p

def vcStore (P : Program) (t : TypeId) (x v : SV) (st : List Ob) (R : Res) : Prop :=
  must ((P.underlying t).isSome && (P.info? t).isSome) <|
  match x with
  | .ptr o k => match st[o]? with
    | some (.cells T cs) => must (v.one && v.cells.length == szOf P t && decide (k + szOf P t ≤ cs.length)) <| R .dead (st.set o (.cells T (setAt cs k v.cells)))
    | some (.row T m xs) => vcPure true v st fun q st => must (q.one && q.cells.length == szOf P t) <| k + szOf P t ≤ m ∧ R .dead (st.set o (.row T m (setAt xs k q.cells)))
    | _ => False
  | .eptr o n sz i off => vcPure false v st fun q st => match st[o]? with
    | some (.vec m e sz' nl xs) => must (q.one && sz == sz' && q.cells.length == szOf P t && n == m) <| i < xs.length ∧ ∀ p, xs[i]? = some p →
        must (decide (off + szOf P t ≤ p.cells.length)) (R .dead (st.set o (.vec m e sz' nl (xs.set i (p.setCells off q.cells)))))
    | _ => False
  | _ => False

def vcFieldAddr (P : Program) (t : TypeId) (x : SV) (f : Nat) (R : SV → Prop) : Prop :=
  match P.underlying t with
  | some (.struct fs) =>
    match fs[f]? with
    | some fd =>
      must (szOf P fd.type != 0 && (P.info? fd.type).isSome) <|
      match x with
      | .ptr o k => R (.ptr o (k + fd.offset))
      | .ipt cs => R (.ipt (cs.drop fd.offset))
      | .eptr o n sz i off => R (.eptr o n sz i (off + fd.offset))
      | _ => False
    | none => False
  | _ => False

/-- A part of a struct or an array. -/
def vcPart (P : Program) (t : TypeId) (x : SV) (off : Nat) (R : SV → Prop) : Prop :=
  must ((P.underlying t).isSome && (P.info? t).isSome) <|
  match x with
  | .pure (.agg cs) =>
    if isAggT P t then must (decide (off + szOf P t ≤ cs.length)) <| R (.pure (.agg ((cs.drop off).take (szOf P t))))
    else off < cs.length ∧ ∀ p, cs[off]? = some p → R (.pure p)
  | .agg cs =>
    if isAggT P t then must (decide (off + szOf P t ≤ cs.length)) <| R (mkAgg ((cs.drop off).take (szOf P t)))
    else off < cs.length ∧ ∀ p, cs[off]? = some p → R p
  | _ => False

def vcField (P : Program) (t : TypeId) (x : SV) (f : Nat) (R : SV → Prop) : Prop :=
  match P.underlying t with
  | some (.struct fs) =>
    match fs[f]? with
    | some fd => vcPart P fd.type x fd.offset R
    | none => False
  | _ => False

/-- The byte of a string at a place. -/
def byteAt (s : ByteArray) (i : Nat) : Int := (s.data.toList.getD i 0).toNat

def vcIndex (P : Program) (t : TypeId) (x i : SV) (R : SV → Prop) : Prop :=
  match P.underlying t, i with
  | some .string, .pure (.val (.int _ j)) =>
    match x with
    | .pure (.val (.string s)) => (0 ≤ j ∧ j < s.size) ∧ R (vI .u8 (byteAt s j.toNat))
    | _ => False
  | some (.array n e), .pure (.val (.int _ j)) => (0 ≤ j ∧ j < n) ∧ must (P.info? e).isSome (vcPart P e x (j.toNat * szOf P e) R)
  | _, _ => False

/-- A new variable. -/
def vcBox (t : TypeId) (x : SV) (st : List Ob) (R : Res) : Prop := must x.one <| R (.ptr st.length 0) (st ++ [.cells t x.cells])

def vcAlloc (P : Program) (t : TypeId) (st : List Ob) (R : Res) : Prop :=
  match P.info? t with
  | some i => match i.zero with
    | some z => must (z.cells.toList.all fun u => u.oneCell') <| R (.ptr st.length 0) (st ++ [.cells t (z.cells.toList.map fun u => .pure (ofV1 u))])
    | none => False
  | none => False

def vfill (place : Nat → Option (Nat × Nat)) : List SV → List (Nat × SV) → Option (List SV)
  | cs, [] => some cs
  | cs, (i, v) :: rest =>
    match place i with
    | none => none
    | some (off, size) => if v.one && v.cells.length == size && decide (off + size ≤ cs.length) then vfill place (setAt cs off v.cells) rest else none

def zeroCells (z : Value) : List SV := z.cells.toList.map fun u => .pure (ofV1 u)
def vcBuild (P : Program) (t : TypeId) (parts : List (Nat × SV)) (R : SV → Prop) : Prop :=
  match P.info? t, P.underlying t with
  | some it, some (.array _ e) =>
    match it.zero, P.info? e with
    | some z, some ie => must (z.cells.toList.all fun u => u.oneCell') <|
      match vfill (fun i => some (i * ie.size, ie.size)) (zeroCells z) (parts.map fun (i, v) => (i, nilAt P e v)) with
      | some cs => R (mkAgg cs)
      | none => False
    | _, _ => False
  | some it, some (.struct fields) =>
    match it.zero, fields.toList.mapM (fun f => (P.info? f.type).map fun i => (f.offset, i.size)) with
    | some z, some places => must (z.cells.toList.all fun u => u.oneCell') <|
      match vfill (places.toArray[·]?) (zeroCells z) (parts.map fun (i, v) => (i, match fields[i]? with | some f => nilAt P f.type v | none => v)) with
      | some cs => R (mkAgg cs)
      | none => False
    | _, _ => False
  | _, _ => False

/-- Parts, each an element: pure, in order. -/
def vcParts (P : Program) (qt : Bool) (e : TypeId) : List (Nat × SV) → Nat → List Ob → (List PV → List Ob → Prop) → Prop
  | [], _, st, K => K [] st
  | (i, v) :: rest, n, st, K => must (i == n) <| vcPure qt (nilAt P e v) st fun p st => must (p.one && p.cells.length == szOf P e) <| vcParts P qt e rest (n + 1) st fun ps st => K (p :: ps) st

/-- A slice out of parts: a vec, or a list where nobody will write. -/
def vcBuildSlice (P : Program) (qt : Bool) (t : TypeId) (len : Nat) (parts : List (Nat × SV)) (vec : Bool) (st : List Ob) (R : Res) : Prop :=
  match P.underlying t with
  | some (.slice e) =>
    match P.info? e with
    | some i =>
      must (parts.length == len && decide (len * i.size ≤ 16777216) && decide (0 < i.size) && (match i.zero with | some z => z.cells.size == i.size | none => false)) <|
        vcParts P qt e parts 0 st fun ps st => if vec then R (.vref st.length 0) (st ++ [.vec 0 e i.size false ps]) else R (.lit i.size ps) st
    | none => False
  | _ => False

def vcMakeSlice (P : Program) (t : TypeId) (l c : SV) (st : List Ob) (R : Res) : Prop :=
  match P.underlying t, l, c with
  | some (.slice e), .pure (.val (.int .i64 n)), .pure (.val (.int .i64 m)) =>
    match P.info? e with
    | some i => match i.zero with
      | some z => must (decide (0 < i.size) && z.cells.size == i.size && z.cells.toList.all (fun u => u.oneCell')) <|
        (0 ≤ n ∧ n ≤ m ∧ m * i.bytes ≤ 140737488355328 ∧ m ≤ 140737488355328) ∧
          R (.vref st.length 0) (st ++ [.vec 0 e i.size false (List.replicate n.toNat (ofV z))])
      | none => False
    | none => False
  | _, _, _ => False

/-- The bounds of a cut. -/
def vcLow (h : Nat) (lo : Option SV) (K : Nat → Nat → Prop) : Prop :=
  match lo with
  | some (.pure (.val (.int _ i))) => (0 ≤ i ∧ i ≤ h) ∧ K i.toNat h
  | some _ => False
  | none => K 0 h
def vcBounds (n : Nat) (lo hi : Option SV) (K : Nat → Nat → Prop) : Prop :=
  match hi with
  | some (.pure (.val (.int _ i))) => (0 ≤ i ∧ i ≤ n) ∧ vcLow i.toNat lo K
  | some _ => False
  | none => vcLow n lo K

def vcSlice (P : Program) (qt : Bool) (t : TypeId) (x : SV) (lo hi : Option SV) (st : List Ob) (R : Res) : Prop :=
  match P.underlying t, x with
  | some .string, .pure (.val (.string s)) => vcBounds s.size lo hi fun l h => R (vS (s.extract l h)) st
  | some (.slice e), .sref o k n => must (szOf P e == 1 && (P.info? e).isSome) <| vcBounds n lo hi fun l h => l < n ∧ R (.sref o (k + l) (h - l)) st
  | some (.slice e), x => must (P.info? e).isSome <| vcPure qt x st fun p st =>
    match p with
    | .list sz nl xs => must (sz == szOf P e) <| vcBounds xs.length lo hi fun l h => R (.pure (.list sz nl ((xs.drop l).take (h - l)))) st
    | _ => False
  | some (.array n e), .ptr o k => must (szOf P e == 1 && (P.info? e).isSome && decide (n ≤ 140737488355328) && !qt) <|
    match st[o]? with
    | some (.row _ _ _) => vcBounds n lo hi fun l h => l < n ∧ R (.sref o (k + l) (h - l)) st
    | some (.cells T cs) => match pures cs with
      | some ps => vcBounds n lo hi fun l h => l < n ∧ R (.sref o (k + l) (h - l)) (st.set o (.row T cs.length ps))
      | none => False
    | _ => False
  | _, _ => False

/-- min, max of two numbers. -/
def vcMin (x y : SV) (R : SV → Prop) : Prop :=
  match x, y with
  | .pure (.val (.int k a)), .pure (.val (.int _ b)) => R (vI k (min a b))
  | _, _ => False
def vcMax (x y : SV) (R : SV → Prop) : Prop :=
  match x, y with
  | .pure (.val (.int k a)), .pure (.val (.int _ b)) => R (vI k (max a b))
  | _, _ => False

/-- copy(d, x): as many as go. -/
def vcCopy (P : Program) (t : TypeId) (d x : SV) (st : List Ob) (R : Res) : Prop :=
  match P.underlying t with
  | some (.slice e) => must (szOf P e == 1 && (P.info? e).isSome) <|
    vcElems x st fun sz ys => must (sz == 1) <|
      match d with
      | .sref o k n => match st[o]? with
        | some (.row T m xs) => must (decide (k + n ≤ m)) <| R (vI .i64 (min ys.length n : Nat)) (st.set o (.row T m (xs.take k ++ (ys.take n).flatMap PV.cells ++ xs.drop (k + min ys.length n))))
        | _ => False
      | .vref o v => match st[o]? with
        | some (.vec m e' sz nl xs) => must (sz == 1 && v == m) <| R (vI .i64 (min ys.length xs.length : Nat)) (st.set o (.vec m e' sz nl (ys.take xs.length ++ xs.drop (min ys.length xs.length))))
        | _ => False
      | _ => False
  | _ => False

/-- clear(x): a part of a row. -/
def vcClear (P : Program) (t : TypeId) (x : SV) (st : List Ob) (R : Res) : Prop :=
  match P.underlying t with
  | some (.slice e) => match P.info? e with
    | some i => match i.zero with
      | some z => must (i.size == 1 && z.oneCell') <|
        match x with
        | .sref o k n => match st[o]? with
          | some (.row T m xs) => k + n ≤ m ∧ R (.tup []) (st.set o (.row T m (xs.take k ++ List.replicate n (ofV1 z) ++ xs.drop (k + n))))
          | _ => False
        | _ => False
      | none => False
    | none => False
  | _ => False

end Go.Sy
