/- Part 3 of 8: the walks and laws on which the last part rests. No conditions. -/
import Derived.Test.YtafngalmkblipaaGreatDoorQ2
import Derived.Orders
import Derived.Still
/- Regions that draw their order: what the walk in the text's order shows holds in every order. -/
set_option linter.all false
set_option maxHeartbeats 4000000
namespace Go.Sy
open Go.RowKit

/-- A condition that asks something and hands on some of a set of results, the objects as they were. -/
def Nice (st : List Ob) (T : Res → Prop) : Prop := ∃ (pre : Prop) (post : SV → Prop), ∀ R, T R ↔ (pre ∧ ∀ s, post s → R s st)

section
variable {st : List Ob}
theorem Nice.ret (s0 : SV) : Nice st fun R => R s0 st := ⟨True, fun s => s = s0, fun R => ⟨fun h => ⟨trivial, fun s e => by rw [e]; exact h⟩, fun h => h.2 s0 rfl⟩⟩
theorem Nice.no : Nice st fun _ => False := ⟨False, fun _ => True, fun R => ⟨fun h => h.elim, fun h => h.1⟩⟩
theorem Nice.and {T : Res → Prop} (c : Prop) (h : Nice st T) : Nice st fun R => c ∧ T R := by
  obtain ⟨pre, post, h⟩ := h
  exact ⟨c ∧ pre, post, fun R => by show (c ∧ T R) ↔ _; rw [h R, and_assoc]⟩
theorem Nice.must {T : Res → Prop} (b : Bool) (h : Nice st T) : Nice st fun R => must b (T R) := by
  simp only [must_iff]
  exact h.and _
theorem Nice.imp {T : Res → Prop} (c : Prop) (h : Nice st T) : Nice st fun R => c → T R := by
  obtain ⟨pre, post, h⟩ := h
  refine ⟨c → pre, fun s => c ∧ post s, fun R => ⟨fun g => ⟨fun hc => ((h R).1 (g hc)).1, fun s ⟨hc, hp⟩ => ((h R).1 (g hc)).2 s hp⟩, fun g hc => (h R).2 ⟨g.1 hc, fun s hp => g.2 s ⟨hc, hp⟩⟩⟩⟩
theorem Nice.all {α : Type} {T : α → Res → Prop} (h : ∀ x, Nice st (T x)) : Nice st fun R => ∀ x, T x R := by
  refine ⟨∀ x, (h x).choose, fun s => ∃ x, (h x).choose_spec.choose s, fun R => ⟨fun g => ⟨fun x => (((h x).choose_spec.choose_spec R).1 (g x)).1, fun s ⟨x, hp⟩ => (((h x).choose_spec.choose_spec R).1 (g x)).2 s hp⟩,
    fun g x => ((h x).choose_spec.choose_spec R).2 ⟨g.1 x, fun s hp => g.2 s ⟨x, hp⟩⟩⟩⟩

theorem Nice.mono {T : Res → Prop} (h : Nice st T) {R R' : Res} (hr : ∀ s, R s st → R' s st) (g : T R) : T R' := by
  obtain ⟨pre, post, h⟩ := h
  exact (h R').2 ⟨((h R).1 g).1, fun s hp => hr s (((h R).1 g).2 s hp)⟩
/-- All that any result meets, and the objects as they were. -/
theorem Nice.conj {T : Res → Prop} (h : Nice st T) {R : Res} (g : T R) : T fun s st' => st' = st ∧ ∀ R', T R' → R' s st := by
  obtain ⟨pre, post, h⟩ := h
  exact (h _).2 ⟨((h R).1 g).1, fun s hp => ⟨rfl, fun R' g' => ((h R').1 g').2 s hp⟩⟩
end

section
variable {P : Program}

theorem nice_bin (op : BinOp) (t : TypeId) (x y : SV) (st : List Ob) : Nice st fun R => vcBin P op t x y fun s => R s st := by
  unfold vcBin
  simp only [onB_iff]
  split
  · cases op <;> first | exact (Nice.ret _).and _ | exact (Nice.ret _).must _ | exact ((Nice.ret _).and _).must _
  · cases op <;> first | exact (Nice.ret _).and _ | exact Nice.ret _ | exact Nice.no
  · cases op <;> first | exact (Nice.ret _).must _ | exact Nice.no.must _
  · cases op <;> first | exact (Nice.ret _).must _ | exact Nice.no.must _
  · cases op <;> first | exact (Nice.ret _).must _ | exact Nice.no.must _
  · cases op <;> first | exact (Nice.ret _).must _ | exact Nice.no.must _
  · cases op <;> first | exact (Nice.ret _).must _ | exact Nice.no.must _
  · split
    · cases op <;> first | exact Nice.ret _ | exact Nice.no
    · exact Nice.no
  · exact Nice.no

theorem nice_min (x y : SV) (st : List Ob) : Nice st fun R => vcMin x y fun s => R s st := by
  unfold vcMin
  split
  · exact Nice.ret _
  · exact Nice.no
theorem nice_max (x y : SV) (st : List Ob) : Nice st fun R => vcMax x y fun s => R s st := by
  unfold vcMax
  split
  · exact Nice.ret _
  · exact Nice.no
theorem nice_un (op : UnOp) (x : SV) (st : List Ob) : Nice st fun R => vcUn op x fun s => R s st := by
  unfold vcUn
  split <;> first | exact Nice.ret _ | exact Nice.no

theorem nice_elems (x : SV) (st : List Ob) {K : Nat → List PV → Res → Prop} (h : ∀ sz xs, Nice st (K sz xs)) : Nice st fun R => vcElems x st fun sz xs => K sz xs R := by
  unfold vcElems
  split
  · exact h _ _
  · exact h _ _
  · split
    · exact (h _ _).must _
    · exact Nice.no
  · split
    · split
      · exact h _ _
      · exact Nice.no
    · split
      · exact h _ _
      · exact Nice.no
    · exact Nice.no
  · exact Nice.no

theorem nice_pure (s : SV) (st : List Ob) {K : PV → List Ob → Res → Prop} (h : ∀ p, Nice st (K p st)) : Nice st fun R => vcPure true s st fun p st => K p st R := by
  unfold vcPure
  simp only
  split
  · exact h _
  · exact Nice.no

theorem nice_conv (s d : TypeId) (x : SV) (st : List Ob) : Nice st fun R => vcConv P s d x st fun s => R s st := by
  unfold vcConv
  split
  · split
    · exact Nice.ret _
    · exact Nice.no
  · split
    · exact Nice.ret _
    · exact ((Nice.ret _).and _).must _
    · exact Nice.no
  · split
    · exact (nice_elems _ _ fun sz xs => (Nice.all fun l => (Nice.ret _).imp _).and _).must _
    · exact Nice.no

theorem nice_len (t : TypeId) (x : SV) (st : List Ob) : Nice st fun R => vcLen P t x st fun s => R s st := by
  unfold vcLen
  split
  · split
    · exact Nice.ret _
    · exact nice_elems _ _ fun sz xs => (Nice.ret _).imp _
  · split
    · exact Nice.ret _
    · exact Nice.no
  · split
    · split
      · exact Nice.ret _
      · exact Nice.no
    · exact Nice.ret _
    · exact Nice.no
  · exact Nice.ret _
  · exact Nice.no

theorem nice_indexAddr (t : TypeId) (x i : SV) (st : List Ob) : Nice st fun R => vcIndexAddr P t x i st fun s => R s st := by
  unfold vcIndexAddr
  split
  · split
    · exact ((Nice.all fun p => (Nice.ret _).imp _).and _).must _
    · split
      · exact ((Nice.ret _).and _).must _
      · exact ((Nice.all fun p => (Nice.ret _).imp _).and _).must _
      · exact Nice.no
    · exact ((Nice.ret _).and _).must _
    · exact Nice.no
  · refine Nice.must _ (Nice.and _ ?_)
    split
    · exact Nice.ret _
    · exact Nice.ret _
    · exact Nice.ret _
    · exact Nice.no
  · exact Nice.no

theorem nice_load (t : TypeId) (x : SV) (st : List Ob) : Nice st fun R => vcLoad P t x st fun s => R s st := by
  unfold vcLoad
  refine Nice.must _ ?_
  split
  · split
    · exact (Nice.ret _).must _
    · split
      · exact Nice.ret _
      · exact Nice.no
  · split
    · split
      · exact (Nice.ret _).must _
      · exact (Nice.ret _).must _
    · split
      · exact (Nice.ret _).must _
      · exact (Nice.all fun p => (Nice.ret _).imp _).and _
    · exact Nice.no
  · split
    · refine Nice.must _ (Nice.and _ (Nice.all fun p => Nice.imp _ ?_))
      split
      · exact (Nice.ret _).must _
      · exact (Nice.ret _).must _
    · exact Nice.no
  · exact Nice.no

theorem nice_fieldAddr (t : TypeId) (x : SV) (f : Nat) (st : List Ob) : Nice st fun R => vcFieldAddr P t x f fun s => R s st := by
  unfold vcFieldAddr
  split
  · split
    · refine Nice.must _ ?_
      split <;> first | exact Nice.ret _ | exact Nice.no
    · exact Nice.no
  · exact Nice.no

theorem nice_part (t : TypeId) (x : SV) (off : Nat) (st : List Ob) : Nice st fun R => vcPart P t x off fun s => R s st := by
  unfold vcPart
  refine Nice.must _ ?_
  split
  · split
    · exact (Nice.ret _).must _
    · exact (Nice.all fun p => (Nice.ret _).imp _).and _
  · split
    · exact (Nice.ret _).must _
    · exact (Nice.all fun p => (Nice.ret _).imp _).and _
  · exact Nice.no

theorem nice_field (t : TypeId) (x : SV) (f : Nat) (st : List Ob) : Nice st fun R => vcField P t x f fun s => R s st := by
  unfold vcField
  split
  · split
    · exact nice_part _ _ _ _
    · exact Nice.no
  · exact Nice.no

theorem nice_index (t : TypeId) (x i : SV) (st : List Ob) : Nice st fun R => vcIndex P t x i fun s => R s st := by
  unfold vcIndex
  split
  · split
    · exact (Nice.ret _).and _
    · exact Nice.no
  · exact ((nice_part _ _ _ _).must _).and _
  · exact Nice.no

theorem nice_build (t : TypeId) (parts : List (Nat × SV)) (st : List Ob) : Nice st fun R => vcBuild P t parts fun s => R s st := by
  unfold vcBuild
  split
  · split
    · refine Nice.must _ ?_
      split
      · exact Nice.ret _
      · exact Nice.no
    · exact Nice.no
  · split
    · refine Nice.must _ ?_
      split
      · exact Nice.ret _
      · exact Nice.no
    · exact Nice.no
  · exact Nice.no

theorem nice_parts (e : TypeId) (st : List Ob) : ∀ (l : List (Nat × SV)) (n : Nat) {K : List PV → List Ob → Res → Prop}, (∀ ps, Nice st (K ps st)) → Nice st fun R => vcParts P true e l n st fun ps st => K ps st R
  | [], n, K, h => h _
  | (i, v) :: l, n, K, h => by
    unfold vcParts
    exact (nice_pure _ _ (K := fun p st R => must (p.one && p.cells.length == szOf P e) (vcParts P true e l (n + 1) st fun ps st => K (p :: ps) st R)) fun p => (nice_parts e st l (n + 1) (K := fun ps st R => K (p :: ps) st R) fun ps => h _).must _).must _

theorem nice_appendQ (t t' : TypeId) (s x : SV) (st : List Ob) : Nice st fun R => vcAppendQ P t t' s x st fun s => R s st := by
  unfold vcAppendQ
  split
  · split
    · refine Nice.must _ (nice_elems _ _ fun sz ys => Nice.must _ ?_)
      split
      · exact (Nice.ret _).and _
      · exact ((Nice.ret _).and _).must _
      · exact Nice.no
    · exact Nice.no
  · exact Nice.no

theorem nice_buildSlice (t : TypeId) (len : Nat) (parts : List (Nat × SV)) (st : List Ob) : Nice st fun R => vcBuildSlice P true t len parts false st R := by
  unfold vcBuildSlice
  split
  · rename_i e hu
    split
    · rename_i i hi
      exact Nice.must _ (nice_parts _ _ _ _ (K := fun ps st R => if false = true then R (.vref st.length 0) (st ++ [.vec 0 e i.size false ps]) else R (.lit i.size ps) st) fun ps => Nice.ret _)
    · exact Nice.no
  · exact Nice.no

theorem nice_low {st : List Ob} (h : Nat) (lo : Option SV) {K : Nat → Nat → Res → Prop} (hk : ∀ l h, Nice st (K l h)) : Nice st fun R => vcLow h lo fun l h => K l h R := by
  unfold vcLow
  split
  · exact (hk _ _).and _
  · exact Nice.no
  · exact hk _ _

theorem nice_slice (t : TypeId) (x : SV) (lo hi : Option SV) (st : List Ob) : Nice st fun R => vcSlice P true t x lo hi st R := by
  have hb : ∀ (n : Nat) {K : Nat → Nat → Res → Prop}, (∀ l h, Nice st (K l h)) → Nice st fun R => vcBounds n lo hi fun l h => K l h R := by
    intro n K hk
    unfold vcBounds
    split
    · exact (nice_low _ _ hk).and _
    · exact Nice.no
    · exact nice_low _ _ hk
  unfold vcSlice
  split
  · exact hb _ fun l h => Nice.ret _
  · exact (hb _ fun l h => (Nice.ret _).and _).must _
  · refine Nice.must _ (nice_pure _ _ (K := fun p st R => match p with | .list sz nl xs => must (sz == szOf P _) (vcBounds xs.length lo hi fun l h => R (.pure (.list sz nl ((xs.drop l).take (h - l)))) st) | _ => False) fun p => ?_)
    split
    · exact (hb _ fun l h => Nice.ret _).must _
    · exact Nice.no
  · exact ⟨False, fun _ => True, fun R => ⟨fun h => by simp [must] at h, fun h => h.1.elim⟩⟩
  · exact Nice.no

theorem nice_lookup (t : TypeId) (x k : SV) (c : Bool) (st : List Ob) : Nice st fun R => vcLookup P t x k c st fun s => R s st := by
  unfold vcLookup
  split
  · split
    · refine Nice.must _ ?_
      split
      · split
        · rename_i es _
          refine ⟨(∃ r, findPV P _ _ es 0 = some r), fun s => ∃ r, findPV P _ _ es 0 = some r ∧ s = lkRes _ c r, fun R => ⟨fun ⟨r, h1, h2⟩ => ⟨⟨r, h1⟩, fun s ⟨r', h3, h4⟩ => ?_⟩, fun ⟨⟨r, h1⟩, h2⟩ => ⟨r, h1, h2 _ ⟨r, h1, rfl⟩⟩⟩⟩
          rw [h1] at h3
          cases h3
          rw [h4]
          exact h2
        · exact Nice.no
      · exact Nice.ret _
      · exact Nice.no
    · exact Nice.no
  · exact Nice.no

theorem nice_call (f : FuncId) (args : List SV) (st : List Ob) (q : SV → Prop) : Nice st fun R => CallIn P f args st (some q) R := by
  refine ⟨(CallOk P f (args.map (SV.fz st)) [] fun r st' => st' = [] ∧ q r) ∧ SV.inL 0 (args.map (SV.fz st)) = true ∧ (args.map (SV.fz st) = args ∨ ∀ r, q r → r.flat = true), q, fun R => ⟨fun h => ?_, fun h => ?_⟩⟩
  · cases h with
    | draw h hn hf k => exact ⟨⟨h, hn, hf⟩, k⟩
  · obtain ⟨⟨h1, h2, h3⟩, h4⟩ := h
    exact .draw h1 h2 h3 h4

/-- In a region that draws, each operation is such a condition. -/
theorem nice_op (ops : Array Oper) (o : Oper) (ρ : Operand → SV) (st : List Ob) (q : SV → Prop) : Nice st fun R => vcOp P ops o ρ st (some q) R := by
  have hno : ∀ K : Res → Prop, Nice st fun R => must (some q).isNone (K R) := fun K => ⟨False, fun _ => True, fun R => ⟨fun h => by simp [must] at h, fun h => h.1.elim⟩⟩
  unfold vcOp
  split
  · exact Nice.ret _
  · exact Nice.ret _
  · split
    · split
      · exact Nice.ret _
      · exact Nice.ret _
    · exact Nice.no
  · exact nice_bin _ _ _ _ _
  · exact nice_un _ _ _
  · exact nice_conv _ _ _ _
  · split
    · exact (Nice.ret _).must _
    · exact Nice.no
  · split
    · exact Nice.ret _
    · exact Nice.ret _
    · exact Nice.ret _
    · exact Nice.no
  · exact nice_indexAddr _ _ _ _
  · exact nice_index _ _ _ _
  · exact nice_load _ _ _
  · exact hno _
  · exact hno _
  · exact nice_build _ _ _
  · exact nice_buildSlice _ _ _ _
  · exact (nice_slice _ _ _ _ _).must _
  · exact ⟨False, fun _ => True, fun R => ⟨fun h => by simp [must] at h, fun h => h.1.elim⟩⟩
  · exact hno _
  · exact ⟨False, fun _ => True, fun R => ⟨fun h => by simp [must] at h, fun h => h.1.elim⟩⟩
  · exact hno _
  · exact nice_lookup _ _ _ _ _
  · exact hno _
  · exact hno _
  · exact hno _
  · exact nice_fieldAddr _ _ _ _
  · exact nice_field _ _ _ _
  · split
    · split
      · exact nice_len _ _ _
      · exact Nice.no
    · split
      · exact nice_appendQ _ _ _ _ _
      · exact Nice.no
    · exact hno _
    · exact hno _
    · exact hno _
    · split
      · exact nice_min _ _ _
      · exact Nice.no
    · split
      · exact nice_max _ _ _
      · exact Nice.no
    · refine Nice.must _ ?_
      split
      · exact nice_call _ _ _ _
      · exact nice_call _ _ _ _
      · exact nice_call _ _ _ _
      · exact hno _
      · exact Nice.no
    · exact Nice.no
  · split
    · split
      · exact Nice.ret _
      · exact (Nice.ret _).must _
    · exact Nice.no
  · exact Nice.no

/-- Only the operands count. -/
theorem op_indep {ops : Array Oper} {o : Oper} {ρ ρ' : Operand → SV} {st : List Ob} {q : Option (SV → Prop)} (h : ∀ x ∈ o.op.operands, ρ x = ρ' x) : vcOp P ops o ρ st q = vcOp P ops o ρ' st q := by
  funext R
  have hargs : ∀ c : Call, (∀ x ∈ c.args, ρ x = ρ' x) → argsOf P ρ c = argsOf P ρ' c := by
    intro c hc
    unfold argsOf
    refine List.map_congr_left fun ⟨x, t⟩ hx => ?_
    show nilAt P t (ρ x) = nilAt P t (ρ' x)
    rw [hc x (by simpa using (List.of_mem_zip hx).1)]
  have hparts : ∀ parts : Array (Nat × Operand), (∀ x ∈ (parts.toList.map (·.2)).toArray, ρ x = ρ' x) → (parts.toList.map fun (i, x) => (i, ρ x)) = (parts.toList.map fun (i, x) => (i, ρ' x)) := by
    intro parts hp
    refine List.map_congr_left fun ⟨i, x⟩ hx => ?_
    show (i, ρ x) = (i, ρ' x)
    rw [hp x (by simp; exact ⟨i, by simpa using hx⟩)]
  unfold vcOp
  cases ho : o.op with
  | move x => simp only [ho, Op.operands] at h ⊢; rw [h x (by simp)]
  | assign x => simp only [ho, Op.operands] at h ⊢; rw [h x (by simp)]
  | pick c a b => simp only [ho, Op.operands] at h ⊢; rw [h c (by simp), h a (by simp), h b (by simp)]
  | alloc t => rfl
  | box t x => simp only [ho, Op.operands] at h ⊢; rw [h x (by simp)]
  | build t parts => simp only [ho, Op.operands] at h ⊢; rw [hparts parts h]
  | buildSlice t len parts => simp only [ho, Op.operands] at h ⊢; rw [hparts parts h]
  | load t x => simp only [ho, Op.operands] at h ⊢; rw [h x (by simp)]
  | store t x v => simp only [ho, Op.operands] at h ⊢; rw [h x (by simp), h v (by simp)]
  | nilCheck x => simp only [ho, Op.operands] at h ⊢; rw [h x (by simp)]
  | binOp op t x y yt => simp only [ho, Op.operands] at h ⊢; rw [h x (by simp), h y (by simp)]
  | unOp op t x => simp only [ho, Op.operands] at h ⊢; rw [h x (by simp)]
  | convert s d x => simp only [ho, Op.operands] at h ⊢; rw [h x (by simp)]
  | makeFunc fn first caps =>
    simp only [ho, Op.operands] at h ⊢
    have : caps.toList.map ρ = caps.toList.map ρ' := List.map_congr_left fun x hx => h x (by simp at hx ⊢; exact .inr hx)
    have h2 : ∀ x ∈ first.toList, ρ x = ρ' x := fun x hx => h x (by simp at hx ⊢; exact .inl hx)
    rw [this]
    split
    · split
      · rfl
      · rename_i x r e1
        have : (x :: r).map ρ = (x :: r).map ρ' := List.map_congr_left fun y hy => h2 y (by rw [e1]; exact hy)
        rw [this]
    · rfl
  | makeSlice t l c => simp only [ho, Op.operands] at h ⊢; rw [h l (by simp), h c (by simp)]
  | slice t x lo hi mx =>
    simp only [ho, Op.operands] at h ⊢
    have h1 : lo.map ρ = lo.map ρ' := by cases lo with | none => rfl | some y => simp only [Option.map_some]; rw [h y (by simp)]
    have h2 : hi.map ρ = hi.map ρ' := by cases hi with | none => rfl | some y => simp only [Option.map_some]; rw [h y (by simp)]
    rw [h x (by simp), h1, h2]
  | fieldAddr t x f => simp only [ho, Op.operands] at h ⊢; rw [h x (by simp)]
  | field t x f => simp only [ho, Op.operands] at h ⊢; rw [h x (by simp)]
  | indexAddr t x i => simp only [ho, Op.operands] at h ⊢; rw [h x (by simp), h i (by simp)]
  | index t x i => simp only [ho, Op.operands] at h ⊢; rw [h x (by simp), h i (by simp)]
  | extract t i => simp only [ho, Op.operands] at h ⊢; rw [h t (by simp)]
  | range t x => simp only [ho, Op.operands] at h ⊢; rw [h x (by simp)]
  | next x b => simp only [ho, Op.operands] at h ⊢; rw [h x (by simp)]
  | entry x => simp only [ho, Op.operands] at h ⊢; rw [h x (by simp)]
  | lookup t x k c => simp only [ho, Op.operands] at h ⊢; rw [h x (by simp), h k (by simp)]
  | mapUpdate t x k v => simp only [ho, Op.operands] at h ⊢; rw [h x (by simp), h k (by simp), h v (by simp)]
  | call c =>
    simp only [ho, Op.operands, Call.operands] at h ⊢
    have hc : ∀ x ∈ c.args, ρ x = ρ' x := fun x hx => h x (by simp [hx])
    split
    · split
      · rename_i x t e1 e2
        rw [hc x (by rw [← Array.mem_toList_iff, e1]; simp)]
      · rfl
    · split
      · rename_i s x t t' e1 e2
        rw [hc s (by rw [← Array.mem_toList_iff, e1]; simp), hc x (by rw [← Array.mem_toList_iff, e1]; simp)]
      · rfl
    · split
      · rename_i d x t t' e1 e2
        rw [hc d (by rw [← Array.mem_toList_iff, e1]; simp), hc x (by rw [← Array.mem_toList_iff, e1]; simp)]
      · rfl
    · split
      · rename_i x k t t' e1 e2
        rw [hc x (by rw [← Array.mem_toList_iff, e1]; simp), hc k (by rw [← Array.mem_toList_iff, e1]; simp)]
      · rfl
    · split
      · rename_i x t e1 e2
        rw [hc x (by rw [← Array.mem_toList_iff, e1]; simp)]
      · rfl
    · split
      · rename_i x y e1
        rw [hc x (by rw [← Array.mem_toList_iff, e1]; simp), hc y (by rw [← Array.mem_toList_iff, e1]; simp)]
      · rfl
    · split
      · rename_i x y e1
        rw [hc x (by rw [← Array.mem_toList_iff, e1]; simp), hc y (by rw [← Array.mem_toList_iff, e1]; simp)]
      · rfl
    · rename_i f hf
      have hf' : ρ f = ρ' f := h f (by simp [hf])
      rw [hf', hargs c hc]
    · rfl
  | _ => rfl

end
end Go.Sy
/- Regions that draw their order: the theorem. -/
set_option linter.all false
set_option maxHeartbeats 4000000
namespace Go.Sy
open Go.RowKit

/-- An operation with its guard: what it hands on. -/
def vcG (P : Program) (ops : Array Oper) (o : Oper) (env : List SV) (st : List Ob) (q : Option (SV → Prop)) (R : Res) : Prop :=
  match o.guard with
  | none => vcOp P ops o (St.ev ⟨env, st⟩) st q R
  | some (j, b) =>
    match (ops[j]?).bind (·.dst) with
    | none => False
    | some d => match env.getD d .dead with
      | .pure (.val (.bool t)) =>
        match t == b with
        | true => vcOp P ops o (St.ev ⟨env, st⟩) st q R
        | false => R (.tup []) st
      | .tup [] => R (.tup []) st
      | _ => False

section
variable {P : Program} {ops : Array Oper} {o : Oper} {env : List SV} {st : List Ob}

theorem guard_iff {q : Option (SV → Prop)} {K : St → Prop} : vcGuard P ops o ⟨env, st⟩ q K ↔ vcG P ops o env st q fun s st' => K (St.put ⟨env, st'⟩ o.dst s) := by
  unfold vcGuard vcG
  simp only [putK_iff]
  rcases o.guard with _ | ⟨j, b⟩
  · exact Iff.rfl
  · simp only
    cases hd : (ops[j]?).bind (·.dst) with
    | none => simp only
    | some d =>
      simp only
      generalize env.getD d .dead = y
      rcases y with p | _ | _ | _ | _ | _ | _ | cs | _ | _ <;> first | exact Iff.rfl | (cases cs <;> exact Iff.rfl)

theorem nice_G (q : SV → Prop) : Nice st fun R => vcG P ops o env st (some q) R := by
  unfold vcG
  split
  · exact nice_op _ _ _ _ _
  · split
    · exact Nice.no
    · split
      · split
        · exact nice_op _ _ _ _ _
        · exact Nice.ret _
      · exact Nice.ret _
      · exact Nice.no

theorem G_indep {env' : List SV} {q : Option (SV → Prop)} (h : ∀ d ∈ o.looksAt ops, env.getD d .dead = env'.getD d .dead) : vcG P ops o env st q = vcG P ops o env' st q := by
  have h1 : vcOp P ops o (St.ev ⟨env, st⟩) st q = vcOp P ops o (St.ev ⟨env', st⟩) st q := op_indep fun x hx => by
    cases x with
    | tmp t =>
      refine h t ?_
      simp only [Oper.looksAt, List.mem_append, List.mem_filterMap]
      exact .inl ⟨.tmp t, by simpa using hx, rfl⟩
    | _ => rfl
  funext R
  unfold vcG
  rw [h1]
  split
  · rfl
  · rename_i j b hg
    cases hd : (ops[j]?).bind (·.dst) with
    | none => rfl
    | some d =>
      simp only
      rw [h d (by simp [Oper.looksAt, hg, hd])]
end

/-! What holds of a result goes on to what follows from it. -/
theorem mono_must {b : Bool} {K K' : Prop} (h : K → K') (g : must b K) : must b K' := by
  rw [must_iff] at g ⊢
  exact ⟨g.1, h g.2⟩
theorem mono_pure {qt : Bool} {s : SV} {st : List Ob} {K K' : PV → List Ob → Prop} (h : ∀ p st', K p st' → K' p st') (g : vcPure qt s st K) : vcPure qt s st K' := by
  unfold vcPure at g ⊢
  split at g
  · split at g
    · exact h _ _ g
    · exact g
  · split at g
    · exact h _ _ g
    · exact g
theorem mono_elems {x : SV} {st : List Ob} {K K' : Nat → List PV → Prop} (h : ∀ sz xs, K sz xs → K' sz xs) (g : vcElems x st K) : vcElems x st K' := by
  unfold vcElems at g ⊢
  split at g
  · exact h _ _ g
  · exact h _ _ g
  · split at g
    · exact mono_must (h _ _) g
    · exact g
  · split at g
    · split at g
      · rename_i hn
        rw [if_pos hn]
        exact h _ _ g
      · exact g.elim
    · split at g
      · rename_i hn
        rw [if_pos hn]
        exact h _ _ g
      · exact g.elim
    · exact g
  · exact g
theorem mono_append {P : Program} {t t' : TypeId} {s x : SV} {st : List Ob} {R R' : Res} (h : ∀ s st', R s st' → R' s st') (g : vcAppend P t t' s x st R) : vcAppend P t t' s x st R' := by
  unfold vcAppend at g ⊢
  split at g
  rotate_left
  · exact g
  split at g
  rotate_left
  · exact g
  refine mono_must (fun g => mono_elems (fun sz ys g => mono_must (fun g => ?_) g) g) g
  split at g
  · exact ⟨g.1, h _ _ g.2⟩
  · split at g
    · exact mono_must (fun g => ⟨g.1, h _ _ g.2⟩) g
    · exact g
  · exact mono_must (fun g => ⟨g.1, fun e => h _ _ (g.2.1 e), fun e => h _ _ (g.2.2 e)⟩) g
  · exact g
theorem mono_appendS {P : Program} {t : TypeId} {s x : SV} {st : List Ob} {R R' : Res} (h : ∀ s st', R s st' → R' s st') (g : vcAppendS P t s x st R) : vcAppendS P t s x st R' := by
  unfold vcAppendS at g ⊢
  split at g
  rotate_left
  · exact g
  split at g
  rotate_left
  · exact g
  refine mono_must (fun g => ?_) g
  split at g
  rotate_left
  · exact g
  split at g
  rotate_left
  · exact g
  split at g
  · exact mono_must (fun g => ⟨g.1, h _ _ g.2⟩) g
  · exact g
theorem mono_store {P : Program} {t : TypeId} {x v : SV} {st : List Ob} {R R' : Res} (h : ∀ s st', R s st' → R' s st') (g : vcStore P t x v st R) : vcStore P t x v st R' := by
  unfold vcStore at g ⊢
  refine mono_must (fun g => ?_) g
  split at g
  · split at g
    · exact mono_must (h _ _) g
    · exact mono_pure (fun p st' g => mono_must (fun g => ⟨g.1, h _ _ g.2⟩) g) g
    · exact g
  · refine mono_pure (fun p st' g => ?_) g
    split at g
    · exact mono_must (fun g => ⟨g.1, fun p hp => mono_must (h _ _) (g.2 p hp)⟩) g
    · exact g
  · exact g
theorem mono_alloc {P : Program} {t : TypeId} {st : List Ob} {R R' : Res} (h : ∀ s st', R s st' → R' s st') (g : vcAlloc P t st R) : vcAlloc P t st R' := by
  unfold vcAlloc at g ⊢
  split at g
  rotate_left
  · exact g
  split at g
  rotate_left
  · exact g
  exact mono_must (h _ _) g
theorem mono_parts {P : Program} {qt : Bool} {e : TypeId} : ∀ {l : List (Nat × SV)} {n : Nat} {st : List Ob} {K K' : List PV → List Ob → Prop}, (∀ p st', K p st' → K' p st') → vcParts P qt e l n st K → vcParts P qt e l n st K'
  | [], n, st, K, K', h, g => h _ _ g
  | (i, v) :: l, n, st, K, K', h, g => by
    unfold vcParts at g ⊢
    exact mono_must (fun g => mono_pure (fun p st' g => mono_must (fun g => mono_parts (fun ps st' g => h _ _ g) g) g) g) g
theorem mono_buildSlice {P : Program} {qt : Bool} {t : TypeId} {len : Nat} {parts : List (Nat × SV)} {vec : Bool} {st : List Ob} {R R' : Res} (h : ∀ s st', R s st' → R' s st') (g : vcBuildSlice P qt t len parts vec st R) : vcBuildSlice P qt t len parts vec st R' := by
  unfold vcBuildSlice at g ⊢
  split at g
  rotate_left
  · exact g
  split at g
  rotate_left
  · exact g
  refine mono_must (fun g => mono_parts (fun ps st' g => ?_) g) g
  split at g
  · rename_i hv; rw [if_pos hv]; exact h _ _ g
  · rename_i hv; rw [if_neg hv]; exact h _ _ g
theorem mono_makeSlice {P : Program} {t : TypeId} {l c : SV} {st : List Ob} {R R' : Res} (h : ∀ s st', R s st' → R' s st') (g : vcMakeSlice P t l c st R) : vcMakeSlice P t l c st R' := by
  unfold vcMakeSlice at g ⊢
  split at g
  rotate_left
  · exact g
  split at g
  rotate_left
  · exact g
  split at g
  rotate_left
  · exact g
  exact mono_must (fun g => ⟨g.1, h _ _ g.2⟩) g
theorem mono_low {h : Nat} {lo : Option SV} {K K' : Nat → Nat → Prop} (hk : ∀ l h, K l h → K' l h) (g : vcLow h lo K) : vcLow h lo K' := by
  unfold vcLow at g ⊢
  split at g
  · exact ⟨g.1, hk _ _ g.2⟩
  · exact g
  · exact hk _ _ g
theorem mono_bounds {n : Nat} {lo hi : Option SV} {K K' : Nat → Nat → Prop} (hk : ∀ l h, K l h → K' l h) (g : vcBounds n lo hi K) : vcBounds n lo hi K' := by
  unfold vcBounds at g ⊢
  split at g
  · exact ⟨g.1, mono_low hk g.2⟩
  · exact g
  · exact mono_low hk g
theorem mono_slice {P : Program} {qt : Bool} {t : TypeId} {x : SV} {lo hi : Option SV} {st : List Ob} {R R' : Res} (h : ∀ s st', R s st' → R' s st') (g : vcSlice P qt t x lo hi st R) : vcSlice P qt t x lo hi st R' := by
  unfold vcSlice at g ⊢
  split at g
  · exact mono_bounds (fun _ _ => h _ _) g
  · exact mono_must (fun g => mono_bounds (fun _ _ g => ⟨g.1, h _ _ g.2⟩) g) g
  · refine mono_must (fun g => mono_pure (fun p st' g => ?_) g) g
    split at g
    · exact mono_must (fun g => mono_bounds (fun _ _ => h _ _) g) g
    · exact g
  · refine mono_must (fun g => ?_) g
    split at g
    · exact mono_bounds (fun _ _ g => ⟨g.1, h _ _ g.2⟩) g
    · split at g
      · exact mono_bounds (fun _ _ g => ⟨g.1, h _ _ g.2⟩) g
      · exact g
    · exact g
  · exact g
theorem mono_copy {P : Program} {t : TypeId} {d x : SV} {st : List Ob} {R R' : Res} (h : ∀ s st', R s st' → R' s st') (g : vcCopy P t d x st R) : vcCopy P t d x st R' := by
  unfold vcCopy at g ⊢
  split at g
  rotate_left
  · exact g
  refine mono_must (fun g => mono_elems (fun sz ys g => mono_must (fun g => ?_) g) g) g
  split at g
  · split at g
    · exact mono_must (h _ _) g
    · exact g
  · split at g
    · exact mono_must (h _ _) g
    · exact g
  · exact g
theorem mono_mapUpdate {P : Program} {t : TypeId} {x k v : SV} {st : List Ob} {R R' : Res} (h : ∀ s st', R s st' → R' s st') (g : vcMapUpdate P t x k v st R) : vcMapUpdate P t x k v st R' := by
  unfold vcMapUpdate at g ⊢
  split at g
  · split at g
    · refine mono_must (fun g => ?_) g
      split at g
      · refine mono_pure (fun p st' g => ?_) g
        split at g
        · obtain ⟨r, h1, h2⟩ := g; exact ⟨r, h1, h _ _ h2⟩
        · exact g
      · exact g
    · exact g
  · exact g
theorem mono_range {P : Program} {t : TypeId} {x : SV} {st : List Ob} {R R' : Res} (h : ∀ s st', R s st' → R' s st') (g : vcRange P t x st R) : vcRange P t x st R' := by
  unfold vcRange at g ⊢
  split at g
  · split at g
    · split at g
      · exact h _ _ g
      · exact g
    · exact g
  · exact g
theorem mono_next {x : SV} {st : List Ob} {R R' : Res} (h : ∀ s st', R s st' → R' s st') (g : vcNext x st R) : vcNext x st R' := by
  unfold vcNext at g ⊢
  split at g
  · split at g
    · exact ⟨fun e => h _ _ (g.1 e), fun l1 e l2 hl => h _ _ (g.2 l1 e l2 hl)⟩
    · exact g
  · exact g
theorem mono_entry {x : SV} {st : List Ob} {R R' : Res} (h : ∀ s st', R s st' → R' s st') (g : vcEntry x st R) : vcEntry x st R' := by
  unfold vcEntry at g ⊢
  split at g
  · split at g
    · exact h _ _ g
    · exact g
  · exact g
theorem mono_delete {P : Program} {t : TypeId} {x k : SV} {st : List Ob} {R R' : Res} (h : ∀ s st', R s st' → R' s st') (g : vcDelete P t x k st R) : vcDelete P t x k st R' := by
  unfold vcDelete at g ⊢
  split at g
  · split at g
    · refine mono_must (fun g => ?_) g
      split at g
      · split at g
        · obtain ⟨r, h1, h2⟩ := g; exact ⟨r, h1, h _ _ h2⟩
        · exact g
      · exact g
    · exact g
  · exact g
theorem mono_clear {P : Program} {t : TypeId} {x : SV} {st : List Ob} {R R' : Res} (h : ∀ s st', R s st' → R' s st') (g : vcClear P t x st R) : vcClear P t x st R' := by
  unfold vcClear at g ⊢
  split at g
  · split at g
    · split at g
      · refine mono_must (fun g => ?_) g
        split at g
        · split at g
          · exact ⟨g.1, h _ _ g.2⟩
          · exact g
        · exact g
      · exact g
    · exact g
  · exact g
theorem mono_call {P : Program} {f : FuncId} {args : List SV} {st : List Ob} {q : Option (SV → Prop)} {R R' : Res} (h : ∀ s st', R s st' → R' s st') (g : CallIn P f args st q R) : CallIn P f args st q R' := by
  cases g with
  | draw h1 hn hf k => exact .draw h1 hn hf fun r hr => h _ _ (k r hr)
  | pure q h1 hn hf k => exact .pure q h1 hn hf fun r hr => h _ _ (k r hr)
  | obj ids args' obs Q hn hi ha hb ho hob h1 k => exact .obj ids args' obs Q hn hi ha hb ho hob h1 fun r st' hr => h _ _ (k r st' hr)

theorem mono_op {P : Program} {ops : Array Oper} {o : Oper} {ρ : Operand → SV} {st : List Ob} {q : Option (SV → Prop)} {R R' : Res} (h : ∀ s st', R s st' → R' s st') (g : vcOp P ops o ρ st q R) : vcOp P ops o ρ st q R' := by
  cases q with
  | some q => exact (nice_op ops o ρ st q).mono (fun s => h s st) g
  | none =>
    unfold vcOp at g ⊢
    split at g
    · exact h _ _ g
    · exact h _ _ g
    · split at g
      · split at g
        · exact h _ _ g
        · exact h _ _ g
      · exact g
    · exact (nice_bin _ _ _ _ st).mono (fun s => h s st) g
    · exact (nice_un _ _ st).mono (fun s => h s st) g
    · exact (nice_conv _ _ _ st).mono (fun s => h s st) g
    · split at g
      · exact mono_must (h _ _) g
      · exact g
    · split at g
      · exact h _ _ g
      · exact h _ _ g
      · exact h _ _ g
      · exact g
    · exact (nice_indexAddr _ _ _ st).mono (fun s => h s st) g
    · exact (nice_index _ _ _ st).mono (fun s => h s st) g
    · exact (nice_load _ _ st).mono (fun s => h s st) g
    · refine mono_must (fun g => ?_) g
      unfold vcBox at g ⊢
      exact mono_must (h _ _) g
    · exact mono_must (mono_alloc h) g
    · exact (nice_build _ _ st).mono (fun s => h s st) g
    · split at g
      · unfold vcBuildRefs at g ⊢
        split at g
        · split at g
          · exact mono_must (h _ _) g
          · exact g
        · exact g
      · exact mono_buildSlice h g
    · exact mono_must (mono_slice h) g
    · exact mono_must (h _ _) g
    · exact mono_must (mono_range h) g
    · exact mono_must (mono_next h) g
    · exact mono_must (mono_entry h) g
    · exact (nice_lookup _ _ _ _ st).mono (fun s => h s st) g
    · exact mono_must (mono_mapUpdate h) g
    · exact mono_must (mono_makeSlice h) g
    · exact mono_must (mono_store h) g
    · exact (nice_fieldAddr _ _ _ st).mono (fun s => h s st) g
    · exact (nice_field _ _ _ st).mono (fun s => h s st) g
    · split at g
      · split at g
        · exact (nice_len _ _ st).mono (fun s => h s st) g
        · exact g
      · split at g
        · split at g
          · split at g
            · exact mono_appendS h g
            · exact mono_append h g
          · exact (nice_appendQ _ _ _ _ st).mono (fun s => h s st) g
        · exact g
      · refine mono_must (fun g => ?_) g
        split at g
        · exact mono_copy h g
        · exact g
      · refine mono_must (fun g => ?_) g
        split at g
        · exact mono_delete h g
        · exact g
      · refine mono_must (fun g => ?_) g
        split at g
        · exact mono_clear h g
        · exact g
      · split at g
        · exact (nice_min _ _ st).mono (fun s => h s st) g
        · exact g
      · split at g
        · exact (nice_max _ _ st).mono (fun s => h s st) g
        · exact g
      · refine mono_must (fun g => ?_) g
        split at g
        · exact mono_call h g
        · exact mono_call h g
        · exact mono_call h g
        · refine mono_must (fun g => ?_) g
          obtain ⟨ids, args', obs, Q', hn, hi, h0, ha, hb, hoo, hob, hrd, k⟩ := g
          exact ⟨ids, args', obs, Q', hn, hi, h0, ha, hb, hoo, hob, hrd, fun r st' hq => h _ _ (k r st' hq)⟩
        · exact g
      · exact g
    · split at g
      · split at g
        · exact h _ _ g
        · exact mono_must (h _ _) g
      · exact g
    · exact g

theorem mono_G {P : Program} {ops : Array Oper} {o : Oper} {env : List SV} {st : List Ob} {q : Option (SV → Prop)} {R R' : Res} (h : ∀ s st', R s st' → R' s st') (g : vcG P ops o env st q R) : vcG P ops o env st q R' := by
  unfold vcG at g ⊢
  split at g
  · exact mono_op h g
  · split at g
    · exact g
    · split at g
      · split at g
        · exact mono_op h g
        · exact h _ _ g
      · exact h _ _ g
      · exact g

/-- Does a load read what nobody writes? -/
def stillB (o : Oper) (env : List SV) : Bool :=
  match o.op with
  | .load _ (.tmp t) => match env.getD t .dead with | .ipt _ => true | _ => false
  | .indexAddr _ (.tmp t) _ => match env.getD t .dead with | .pure (.list _ _ _) => true | _ => false
  | .call c => match c.callee, c.args.toList with
    | .builtin .len, [.tmp t] => match env.getD t .dead with | .pure (.list _ _ xs) => decide (xs.length ≤ 9223372036854775807) | _ => false
    | _, _ => false
  | _ => false
/-- Does a load read a variable? -/
def cellB (o : Oper) (env : List SV) (st : List Ob) : Bool :=
  match o.op with
  | .load _ (.tmp t) => match env.getD t .dead with
    | .ptr n k => match st[n]? with
      | some (.cells _ _) => true
      | some (.row _ _ xs) => decide (k < xs.length)
      | _ => false
    | _ => false
  | _ => false
def Ob.isC : Ob → Bool
  | .cells _ _ => true
  | .row _ _ _ => true
  | _ => false
/-- The variables are as they were. -/
def KeepL : List Ob → List Ob → Prop
  | [], _ => True
  | x :: xs, y :: ys => (x = y ∨ (x.isC = false ∧ y.isC = false)) ∧ KeepL xs ys
  | _ :: _, [] => False
theorem KeepL.get : ∀ {st st' : List Ob}, KeepL st st' → ∀ {n : Nat}, n < st.length → ∀ {ob : Ob}, ob.isC = true → (st'[n]? = some ob ↔ st[n]? = some ob)
  | [], _, _, n, hn, _, _ => by simp at hn
  | x :: xs, y :: ys, ⟨h1, h2⟩, 0, _, ob, hob => by
    simp only [List.getElem?_cons_zero, Option.some.injEq]
    rcases h1 with rfl | ⟨h3, h4⟩
    · exact Iff.rfl
    · exact ⟨fun e => (by rw [e, hob] at h4; cases h4), fun e => (by rw [e, hob] at h3; cases h3)⟩
  | x :: xs, y :: ys, ⟨h1, h2⟩, n + 1, hn, ob, hob => by
    simp only [List.getElem?_cons_succ]
    exact KeepL.get h2 (by simpa using hn) hob
  | _ :: _, [], h, _, _, _, _ => h.elim
/-- The same, where some loads are asked to read what nobody writes (1) or variables (2), and some operations to leave variables as they are (3). -/
def vcH (P : Program) (ops : Array Oper) (o : Oper) (lk : Nat) (env : List SV) (st : List Ob) (q : Option (SV → Prop)) (R : Res) : Prop :=
  match lk with
  | 0 => vcG P ops o env st q R
  | 1 => must (stillB o env) (vcG P ops o env st q R)
  | 2 => must (cellB o env st) (vcG P ops o env st q R)
  | _ => vcG P ops o env st q fun s st' => KeepL st st' ∧ R s st'

theorem vcH_G {P : Program} {ops : Array Oper} {o : Oper} {lk : Nat} {env : List SV} {st : List Ob} {q : Option (SV → Prop)} {R : Res} (h : vcH P ops o lk env st q R) : vcG P ops o env st q R := by
  match lk with
  | 0 => exact h
  | 1 => exact (must_iff.1 h).2
  | 2 => exact (must_iff.1 h).2
  | n + 3 => exact mono_G (fun s st' h => h.2) h
theorem mono_H {P : Program} {ops : Array Oper} {o : Oper} {lk : Nat} {env : List SV} {st : List Ob} {q : Option (SV → Prop)} {R R' : Res} (h : ∀ s st', R s st' → R' s st') (g : vcH P ops o lk env st q R) : vcH P ops o lk env st q R' := by
  match lk with
  | 0 => exact mono_G h g
  | 1 => exact mono_must (mono_G h) g
  | 2 => exact mono_must (mono_G h) g
  | n + 3 => exact mono_G (fun s st' g => ⟨g.1, h s st' g.2⟩) g
theorem H_indep {P : Program} {ops : Array Oper} {o : Oper} {lk : Nat} {env env' : List SV} {st : List Ob} {q : Option (SV → Prop)} (h : ∀ d ∈ o.looksAt ops, env.getD d .dead = env'.getD d .dead) : vcH P ops o lk env st q = vcH P ops o lk env' st q := by
  funext R
  have hx : ∀ t x, o.op = .load t (.tmp x) → env.getD x .dead = env'.getD x .dead := fun t x ho => h x (by simp [Oper.looksAt, ho, Op.operands])
  match lk with
  | 0 => show vcG .. = vcG ..; rw [G_indep h]
  | 1 =>
    show must _ (vcG ..) = must _ (vcG ..)
    rw [G_indep h]
    congr 1
    unfold stillB
    split
    · rename_i t x ho
      rw [hx t x ho]
    · rename_i t x i ho
      rw [h x (by simp [Oper.looksAt, ho, Op.operands])]
    · rename_i c ho
      split
      · rename_i t hc ha
        have hm : Operand.tmp t ∈ c.args.toList := by rw [ha]; simp
        rw [h t (by
          simp only [Oper.looksAt, ho, Op.operands, hc]
          simp
          exact .inl ⟨.tmp t, by unfold Call.operands; simp [hc]; simpa using hm, rfl⟩)]
      · rfl
    · rfl
  | 2 =>
    show must _ (vcG ..) = must _ (vcG ..)
    rw [G_indep h]
    congr 1
    unfold cellB
    split
    · rename_i t x ho
      rw [hx t x ho]
    · rfl
  | n + 3 => show vcG .. = vcG ..; rw [G_indep h]
theorem nice_H {P : Program} {ops : Array Oper} {o : Oper} {lk : Nat} {env : List SV} {st : List Ob} (q : SV → Prop) : Nice st fun R => vcH P ops o lk env st (some q) R := by
  match lk with
  | 0 => exact nice_G q
  | 1 => exact (nice_G q).must _
  | 2 => exact (nice_G q).must _
  | n + 3 =>
    obtain ⟨pre, post, h⟩ := nice_G (P := P) (ops := ops) (o := o) (env := env) (st := st) q
    refine ⟨pre ∧ ∀ s, post s → KeepL st st, post, fun R => ?_⟩
    show vcG P ops o env st (some q) (fun s st' => KeepL st st' ∧ R s st') ↔ _
    refine (h _).trans ?_
    exact ⟨fun g => ⟨⟨g.1, fun s hs => (g.2 s hs).1⟩, fun s hs => (g.2 s hs).2⟩, fun g => ⟨g.1.1, fun s hs => ⟨g.1.2 s hs, g.2 s hs⟩⟩⟩

section
variable {E : Ent} {P : Program} {ops : Array Oper}

theorem getD_set_ne' {env : List SV} {d d' : Nat} (s : SV) (h : d ≠ d') : (env.set d s).getD d' .dead = env.getD d' .dead := by
  simp [List.getD_eq_getElem?_getD, List.getElem?_set_ne h]

theorem put_env_ne {env : List SV} {st : List Ob} {o : Option Tmp} {d : Nat} {s : SV} (h : o ≠ some d) : (St.put ⟨env, st⟩ o s).env.getD d .dead = env.getD d .dead := by
  cases o with
  | none => rfl
  | some d' => exact getD_set_ne' s (fun e => h (by rw [e]))

theorem put_st {σ : St} {o : Option Tmp} {s : SV} : (σ.put o s).st = σ.st := by cases o <;> rfl

theorem put_comm {σ : St} {o o' : Option Tmp} {s s' : SV} (h : ∀ d, o = some d → o' ≠ some d) : (σ.put o s).put o' s' = (σ.put o' s').put o s := by
  cases o with
  | none => cases o' <;> rfl
  | some d =>
    cases o' with
    | none => rfl
    | some d' =>
      have : d ≠ d' := fun e => h d rfl (by rw [e])
      simp only [St.put]
      rw [List.set_comm _ _ this]

/-- Some concrete state fits. -/
def Met (E : Ent) (σ : St) : Prop := ∃ a w, Rel E σ a w

theorem Met.forget {σ : St} {o : Option Tmp} {s : SV} (h : Met E (σ.put o s)) (hd : ∀ d, o = some d → σ.env.getD d .dead = .dead) : Met E σ := by
  cases o with
  | none => exact h
  | some d =>
    obtain ⟨a, w, χ, G, h1, h2⟩ := h
    refine ⟨a, w, χ, G, ?_, h2⟩
    have h3 := RTL_set_any h1 d (s := .dead) trivial
    have e : ((σ.env.set d s).set d .dead) = σ.env := by
      rw [List.set_set]
      apply List.ext_getElem?
      intro i
      rw [List.getElem?_set]
      split
      · rename_i e
        subst e
        split
        · rename_i hlt
          have := hd d rfl
          rw [List.getD_eq_getElem?_getD, List.getElem?_eq_getElem hlt] at this
          rw [List.getElem?_eq_getElem hlt]
          simp at this
          rw [this]
        · rename_i hge
          rw [List.getElem?_eq_none (by omega)]
      · rfl
    exact e ▸ h3

theorem uponIn_sat {o : Oper} {a : Act} {ro : Option Nat} {next : Act → World → Prop} {r : Result Next} (h : o.uponIn (FW ro) 0 P a next (fun _ _ _ => False) r) : ∃ a' w', next a' w' := by
  cases r with
  | ok n w' =>
    cases n with
    | value v => exact ⟨_, _, h⟩
    | skip => exact ⟨_, _, h⟩
    | defer d => exact ⟨_, _, h⟩
    | enter f args =>
      obtain ⟨e, w'', fr, hR, _⟩ := h.2.2 [] (fun d hd => by cases hd)
      cases e with
      | returned v => exact ⟨_, _, hR⟩
      | panicked ch => exact hR.elim
      | outgrown => obtain ⟨_, _, hq⟩ := hR; exact hq.elim
    | row r args =>
      obtain ⟨v, w'', hR, _⟩ := h.2 default [] (fun d hd => by cases hd)
      exact ⟨_, _, hR⟩
    | round l f tmps asg body =>
      obtain ⟨e, w'', hR, _⟩ := h.2.2 default [] (fun d hd => by cases hd)
      cases e with
      | returned v => exact ⟨_, _, hR⟩
      | panicked ch => exact hR.elim
      | outgrown => obtain ⟨_, _, hq⟩ := hR; exact hq.elim
    | _ => exact h.elim
  | halt x w' => cases x <;> exact h.elim

theorem upon_sat {o : Oper} {a : Act} {next : Act → World → Prop} {r : Result Next} (h : o.upon P a next (fun _ _ _ => False) r) : ∃ a' w', next a' w' := by
  cases r with
  | ok n w' =>
    cases n with
    | value v => exact ⟨_, _, h⟩
    | skip => exact ⟨_, _, h⟩
    | defer d => exact ⟨_, _, h⟩
    | enter f args =>
      obtain ⟨e, w'', fr, hR, _⟩ := h []
      cases e with
      | returned v => exact ⟨_, _, hR⟩
      | panicked ch => exact hR.elim
      | outgrown => obtain ⟨_, _, hq⟩ := hR; exact hq.elim
    | row r args =>
      obtain ⟨v, w'', hR, _⟩ := h default []
      exact ⟨_, _, hR⟩
    | _ => exact h.elim
  | halt x w' => cases x <;> exact h.elim

/-- From a state that is met, an operation comes to a state that is met. -/
theorem realize {o : Oper} {env : List SV} {st : List Ob} {q : Option (SV → Prop)} {R : Res} (hX : Met E ⟨env, st⟩) (h : vcG P ops o env st q R) : ∃ s st', R s st' ∧ Met E (St.put ⟨env, st'⟩ o.dst s) := by
  obtain ⟨a, w, hr⟩ := hX
  have run : vcOp P ops o (St.ev ⟨env, st⟩) st q R → ∃ s st', R s st' ∧ Met E (St.put ⟨env, st'⟩ o.dst s) := fun h => by
    have := op_sound (Q := fun _ _ _ => False) h hr
    obtain ⟨a', w', s, v, st', hR, rfl, h2⟩ := uponIn_sat this.2
    exact ⟨s, st', hR, _, _, Rel.two (o := o.dst) h2⟩
  unfold vcG at h
  split at h
  · exact run h
  · split at h
    · exact h.elim
    · split at h
      · split at h
        · exact run h
        · obtain ⟨χ, G, hf⟩ := hr
          exact ⟨.tup [], st, h, _, _, Rel.two (o := o.dst) (s := .tup []) (v := undef) ⟨χ, G, hf, [], rfl, rfl⟩⟩
      · obtain ⟨χ, G, hf⟩ := hr
        exact ⟨.tup [], st, h, _, _, Rel.two (o := o.dst) (s := .tup []) (v := undef) ⟨χ, G, hf, [], rfl, rfl⟩⟩
      · exact h.elim


theorem realizeH {o : Oper} {lk : Nat} {env : List SV} {st : List Ob} {q : Option (SV → Prop)} {R : Res} (hX : Met E ⟨env, st⟩) (h : vcH P ops o lk env st q R) : ∃ s st', R s st' ∧ Met E (St.put ⟨env, st'⟩ o.dst s) := realize hX (vcH_G h)

/-- Operation number i comes up. -/
def sOp (P : Program) (ops : Array Oper) (lk : Nat → Nat) (md : Nat → Option (SV → Prop)) (i : Nat) (K : St → Prop) (σ : St) : Prop :=
  match ops[i]? with
  | none => K σ
  | some o => vcH P ops o (lk i) σ.env σ.st (md i) fun s st' => K (St.put ⟨σ.env, st'⟩ o.dst s)

/-- Whatever order is picked from here on, over so many operations. -/
def anyS (E : Ent) (P : Program) (ops : Array Oper) (lk : Nat → Nat) (md : Nat → Option (SV → Prop)) (L : Array Bool → St → Prop) : Nat → Array Bool → St → Prop
  | 0, listed, σ => Met E σ → L listed σ
  | fuel + 1, listed, σ => Met E σ → Region.ready .any ops listed ≠ [] ∧ ∀ i ∈ Region.ready .any ops listed, sOp P ops lk md i (anyS E P ops lk md L fuel (listed.setIfInBounds i true)) σ

variable {L : Array Bool → St → Prop} {lk : Nat → Nat} {md : Nat → Option (SV → Prop)}
theorem anyS_met {fuel : Nat} {listed : Array Bool} {σ : St} (h : Met E σ → anyS E P ops lk md L fuel listed σ) : anyS E P ops lk md L fuel listed σ := by
  cases fuel with
  | zero => exact fun hX => h hX hX
  | succ n => exact fun hX => h hX hX

theorem any_sound {Q : Exit → Act → World → Prop} (hk : ∀ listed σ a w, L listed σ → Rel E σ a w → Region.ready .any ops listed = [] ∧ Q .normal a w) : ∀ (fuel : Nat) (listed : Array Bool) (σ : St) (a : Act) (w : World), anyS E P ops lk md L fuel listed σ → Rel E σ a w → wpAnyIn (FW E.ro) 0 P .any ops Q fuel listed a w
  | 0, listed, σ, a, w, h, hr => hk _ _ _ _ (h ⟨a, w, hr⟩) hr
  | fuel + 1, listed, σ, a, w, h, hr => by
    obtain ⟨h1, h2⟩ := h ⟨a, w, hr⟩
    refine ⟨fun e => absurd e h1, fun i hi => ?_⟩
    have := h2 i hi
    unfold sOp at this
    unfold wpOpIn
    cases ho : ops[i]? with
    | none => rw [ho] at this; exact any_sound hk fuel _ σ a w this hr
    | some o =>
      rw [ho] at this
      simp only at this ⊢
      have run : vcOp P ops o (St.ev ⟨σ.env, σ.st⟩) σ.st (md i) (fun s st' => anyS E P ops lk md L fuel (listed.setIfInBounds i true) (St.put ⟨σ.env, st'⟩ o.dst s)) →
          o.wpIn (FW E.ro) 0 P a w (wpAnyIn (FW E.ro) 0 P .any ops Q fuel (listed.setIfInBounds i true)) Q := fun h => by
        have := op_sound (Q := Q) h hr
        exact Oper.wpIn_mono (fun a' w' ⟨s, v, st', hR, ha, h2⟩ => by subst ha; exact any_sound hk fuel _ _ _ _ hR (Rel.two (o := o.dst) h2)) this
      have this := vcH_G this
      unfold vcG at this
      split at this
      · rename_i hg
        rw [if_pos (by simp [Region.wanted, hg])]
        exact run this
      · rename_i j b hg
        split at this
        · exact this.elim
        · rename_i d hd
          split at this
          · rename_i t he
            obtain ⟨χ, G, hf⟩ := hr
            have hy := yielded_of hd hf.1 he
            split at this
            · rename_i htb
              rw [if_pos (by simp [Region.wanted, hg, hy]; simpa using htb)]
              exact run this
            · rename_i htb
              rw [if_neg (by simp [Region.wanted, hg, hy]; simpa using htb)]
              exact ⟨fun f _ => FW_fn _ f, any_sound hk fuel _ _ _ _ this (Rel.two (o := o.dst) (s := .tup []) (v := undef) ⟨χ, G, hf, [], rfl, rfl⟩)⟩
          · rename_i he
            obtain ⟨χ, G, hf⟩ := hr
            have hy := yielded_not hd hf.1 he
            rw [if_neg (by simp [Region.wanted, hg, hy])]
            exact ⟨fun f _ => FW_fn _ f, any_sound hk fuel _ _ _ _ this (Rel.two (o := o.dst) (s := .tup []) (v := undef) ⟨χ, G, hf, [], rfl, rfl⟩)⟩
          · exact this.elim

/-- What is listed rests on nothing unlisted. -/
structure Closed (ops : Array Oper) (listed : Array Bool) : Prop where
  size : listed.size = ops.size
  closed : ∀ j oj, ops[j]? = some oj → listed.getD j false = true → ∀ e ∈ oj.after, Region.binds .any e = true → listed.getD e.on false = true

theorem getD_both {listed : Array Bool} {i : Nat} (h : listed.getD i true = false) : listed.getD i false = false := by
  rcases Nat.lt_or_ge i listed.size with h' | h'
  · simp [h'] at h ⊢; exact h
  · simp [Array.getElem?_eq_none h'] at h

theorem Closed.set {i : Nat} {listed : Array Bool} (inv : Closed ops listed) (hi : i ∈ Region.ready .any ops listed) : Closed ops (listed.setIfInBounds i true) := by
  obtain ⟨_, oi, hoi, hall⟩ := mem_ready.1 hi
  refine ⟨by simp [inv.size], fun j oj hj hl e he hb => ?_⟩
  by_cases hij : i = j
  · subst hij
    have : oj = oi := Option.some.inj (hj.symm.trans hoi)
    subst this
    exact getD_set_true (hall e he hb)
  · rw [getD_set_ne false hij] at hl
    exact getD_set_true (inv.closed j oj hj hl e he hb)

/-- Operation j waits for i, if by others. -/
inductive Reach (ops : Array Oper) : Nat → Nat → Prop
  | one {j : Nat} {oj : Oper} {e : Edge} (hj : ops[j]? = some oj) (he : e ∈ oj.after) (hb : Region.binds .any e = true) : Reach ops j e.on
  | more {j i : Nat} {oj : Oper} {e : Edge} (hj : ops[j]? = some oj) (he : e ∈ oj.after) (hb : Region.binds .any e = true) (h : Reach ops e.on i) : Reach ops j i

theorem Reach.listed {listed : Array Bool} (inv : Closed ops listed) {j i : Nat} (h : Reach ops j i) : listed.getD j false = true → listed.getD i false = true := by
  induction h with
  | one hj he hb => exact fun hl => inv.closed _ _ hj hl _ he hb
  | more hj he hb _ ih => exact fun hl => ih (inv.closed _ _ hj hl _ he hb)

theorem Reach.ready {listed : Array Bool} (inv : Closed ops listed) {j i : Nat} (h : Reach ops j i) (hr : j ∈ Region.ready .any ops listed) : listed.getD i false = true := by
  obtain ⟨_, oj, hoj, hall⟩ := mem_ready.1 hr
  cases h with
  | one hj he hb =>
    have : oj = _ := Option.some.inj (hoj.symm.trans hj)
    subst this
    exact hall _ he hb
  | more hj he hb h =>
    have : oj = _ := Option.some.inj (hoj.symm.trans hj)
    subst this
    exact h.listed inv (hall _ he hb)

/-- By the temporaries alone, one result. -/
def Det (P : Program) (ops : Array Oper) (o : Oper) (lk : Nat) (q : Option (SV → Prop)) : Prop := ∀ env, ∃ (pre : Prop) (s0 : SV), ∀ st R, vcH P ops o lk env st q R ↔ (pre ∧ R s0 st)
/-- Two operations that may change places. -/
def Comm (P : Program) (ops : Array Oper) (lk : Nat → Nat) (md : Nat → Option (SV → Prop)) (i j : Nat) (oi oj : Oper) : Prop := Det P ops oi (lk i) (md i) ∨ Det P ops oj (lk j) (md j) ∨ ((md i).isSome = true ∧ (md j).isSome = true) ∨ (lk i = 2 ∧ (md i).isSome = true ∧ lk j = 3) ∨ (lk j = 2 ∧ (md j).isSome = true ∧ lk i = 3)
/-- An operation that others may pass. -/
def Loose (ops : Array Oper) (j : Nat) : Prop := ∃ i, i < ops.size ∧ i ≠ j ∧ ¬Reach ops i j ∧ ¬Reach ops j i

theorem nice_some {o : Oper} {lk : Nat} {env : List SV} {st : List Ob} {q : Option (SV → Prop)} (h : q.isSome = true) : Nice st fun R => vcH P ops o lk env st q R := by
  cases q with
  | none => cases h
  | some q => exact nice_H q

/-- A load of a variable, by what the variable holds. -/
theorem ld2 {o : Oper} {env : List SV} {st0 : List Ob} {q : SV → Prop} {R0 : Res} (h : vcH P ops o 2 env st0 (some q) R0) : ∃ (C : List Ob → Prop) (pre : Prop) (s0 : SV), C st0 ∧
    (∀ st, C st → ∀ R, vcH P ops o 2 env st (some q) R ↔ (pre ∧ R s0 st)) ∧ (∀ E st st', Met E ⟨env, st⟩ → KeepL st st' → (C st ↔ C st')) := by
  have hb := (must_iff.1 h).1
  unfold cellB at hb
  split at hb
  · rename_i t x ho
    split at hb
    · rename_i n k hx
      have fin : ∀ ob : Ob, ob.isC = true → st0[n]? = some ob → (∀ st, st[n]? = some ob → cellB o env st = true) →
          (∃ (pre : Prop) (s0 : SV), ∀ st, st[n]? = some ob → ∀ R, vcOp P ops o (St.ev ⟨env, st⟩) st (some q) R ↔ (pre ∧ R s0 st)) →
          ∃ (C : List Ob → Prop) (pre : Prop) (s0 : SV), C st0 ∧ (∀ st, C st → ∀ R, vcH P ops o 2 env st (some q) R ↔ (pre ∧ R s0 st)) ∧ (∀ E st st', Met E ⟨env, st⟩ → KeepL st st' → (C st ↔ C st')) := by
        rintro ob hisC hob hcb ⟨pre, s0, key⟩
        have key2 : ∃ (pre : Prop) (s0 : SV), ∀ st, st[n]? = some ob → ∀ R, vcG P ops o env st (some q) R ↔ (pre ∧ R s0 st) := by
          unfold vcG
          split
          · exact ⟨pre, s0, key⟩
          · split
            · exact ⟨False, .dead, fun st _ R => ⟨fun h => h.elim, fun h => h.1⟩⟩
            · split
              · split
                · exact ⟨pre, s0, key⟩
                · exact ⟨True, .tup [], fun st _ R => ⟨fun h => ⟨trivial, h⟩, fun h => h.2⟩⟩
              · exact ⟨True, .tup [], fun st _ R => ⟨fun h => ⟨trivial, h⟩, fun h => h.2⟩⟩
              · exact ⟨False, .dead, fun st _ R => ⟨fun h => h.elim, fun h => h.1⟩⟩
        obtain ⟨pre, s0, key2⟩ := key2
        refine ⟨fun st => st[n]? = some ob, pre, s0, hob, fun st hst R => ?_, fun E st st' hX hk => ?_⟩
        · show must (cellB o env st) _ ↔ _
          rw [hcb st hst]
          exact key2 st hst R
        · have hn : n < st.length := by
            obtain ⟨a, w, χ, G, hf⟩ := hX
            have hv := hf.1.get x
            rw [show (⟨env, st⟩ : St).env.getD x .dead = .ptr n k from hx] at hv
            obtain ⟨g, hG, _⟩ := hv
            rcases Nat.lt_or_ge n st.length with h | h
            · exact h
            · have := hf.2.2.2.2.2.2 n h
              rw [hG] at this
              cases this
          exact (hk.get hn hisC).symm
      have e : ∀ st R, vcOp P ops o (St.ev ⟨env, st⟩) st (some q) R = vcLoad P t (.ptr n k) st fun s => R s st := fun st R => by
        unfold vcOp
        simp only [ho]
        have : St.ev ⟨env, st⟩ (.tmp x) = .ptr n k := hx
        rw [this]
      split at hb
      · rename_i T cs hob
        refine fin _ rfl hob (fun st hst => by unfold cellB; simp only [ho, hx, hst]) ?_
        by_cases ha : isAggT P t = true
        · refine ⟨(((P.underlying t).isSome && (P.info? t).isSome) = true) ∧ k + szOf P t ≤ cs.length, mkAgg ((cs.drop k).take (szOf P t)), fun st hst R => ?_⟩
          rw [e]
          unfold vcLoad
          simp only [hst, ha, if_true, must_iff, decide_eq_true_eq, and_assoc]
        · refine ⟨(((P.underlying t).isSome && (P.info? t).isSome) = true) ∧ k < cs.length, cs.getD k .dead, fun st hst R => ?_⟩
          rw [e]
          unfold vcLoad
          simp only [hst, if_neg ha, must_iff, decide_eq_true_eq, and_assoc]
      · rename_i T m xs hob
        have hlt : k < xs.length := of_decide_eq_true hb
        refine fin _ rfl hob (fun st hst => by unfold cellB; simp only [ho, hx, hst, decide_eq_true hlt]) ?_
        by_cases ha : isAggT P t = true
        · refine ⟨(((P.underlying t).isSome && (P.info? t).isSome) = true) ∧ k + szOf P t ≤ m, .pure (.agg ((xs.drop k).take (szOf P t))), fun st hst R => ?_⟩
          rw [e]
          unfold vcLoad
          simp only [hst, ha, if_true, must_iff, decide_eq_true_eq, and_assoc]
        · refine ⟨(((P.underlying t).isSome && (P.info? t).isSome) = true) ∧ k < m, .pure xs[k], fun st hst R => ?_⟩
          rw [e]
          unfold vcLoad
          simp only [hst, if_neg ha, must_iff, List.getElem?_eq_getElem hlt, Option.some.injEq, forall_eq', and_assoc]
      · cases hb
    · cases hb
  · cases hb

/-- **An operation that may come up now may be taken first.** -/
theorem any_first {i : Nat} {oi : Oper} (hi : ops[i]? = some oi) (hdone : ∀ listed σ, L listed σ → Region.ready .any ops listed = [])
    (hap : ∀ j oj, ops[j]? = some oj → j ≠ i → ¬Reach ops j i → ¬Reach ops i j → oi.apart ops oj = true ∧ Comm P ops lk md i j oi oj)
    (hdis : ∀ j oj k ok, ops[j]? = some oj → ops[k]? = some ok → Loose ops j → k ≠ j → ∀ d, oj.dst = some d → ok.dst ≠ some d) : ∀ (fuel : Nat) (listed : Array Bool) (env : List SV) (st : List Ob), Closed ops listed →
    (∀ j oj, ops[j]? = some oj → Loose ops j → listed.getD j true = false → ∀ d, oj.dst = some d → env.getD d .dead = .dead) →
    i ∈ Region.ready .any ops listed →
    vcH P ops oi (lk i) env st (md i) (fun s st' => anyS E P ops lk md L fuel (listed.setIfInBounds i true) (St.put ⟨env, st'⟩ oi.dst s)) → anyS E P ops lk md L (fuel + 1) listed ⟨env, st⟩ := by
  intro fuel
  induction fuel with
  | zero =>
    intro listed env st inv hdd hir H hX
    refine ⟨fun e => (by rw [e] at hir; cases hir), fun j hj => ?_⟩
    by_cases hji : j = i
    · subst hji
      unfold sOp
      rw [hi]
      exact H
    · obtain ⟨s, st', hR, hX'⟩ := realizeH hX H
      have := ready_mono hj hji
      rw [hdone _ _ (hR hX')] at this
      cases this
  | succ fuel ih =>
    intro listed env st inv hdd hir H hX
    refine ⟨fun e => (by rw [e] at hir; cases hir), fun j hj => ?_⟩
    by_cases hji : j = i
    · subst hji
      unfold sOp
      rw [hi]
      exact H
    · obtain ⟨hjun, oj, hoj, hall⟩ := mem_ready.1 hj
      have hiun := (mem_ready.1 hir).1
      have hnji : ¬Reach ops j i := fun h => by
        have := h.ready inv hj
        rw [getD_both hiun] at this
        cases this
      have hnij : ¬Reach ops i j := fun h => by
        have := h.ready inv hir
        rw [getD_both hjun] at this
        cases this
      obtain ⟨hapart, hcomm⟩ := hap j oj hoj hji hnji hnij
      have hloose : Loose ops j := ⟨i, (Array.getElem?_eq_some_iff.1 hi).1, fun e => hji e.symm, hnij, hnji⟩
      obtain ⟨a1, a2, a3⟩ := Oper.apart_spec hapart
      have key : ∀ sj st', (vcH P ops oi (lk i) env st' (md i) fun s st'' => anyS E P ops lk md L fuel ((listed.setIfInBounds i true).setIfInBounds j true) ((St.put ⟨env, st''⟩ oi.dst s).put oj.dst sj)) →
          anyS E P ops lk md L (fuel + 1) (listed.setIfInBounds j true) (St.put ⟨env, st'⟩ oj.dst sj) := by
        intro sj st' h
        have hst2 : (St.put ⟨env, st'⟩ oj.dst sj) = ⟨(St.put ⟨env, st'⟩ oj.dst sj).env, st'⟩ := by cases oj.dst <;> rfl
        rw [hst2]
        refine ih (listed.setIfInBounds j true) (St.put ⟨env, st'⟩ oj.dst sj).env st' (inv.set hj) ?_ (ready_mono hir (Ne.symm hji)) ?_
        · intro k ok hk hkl hun d hd
          have hjk : j ≠ k := by
            rintro rfl
            have hlt : j < listed.size := by
              rcases Nat.lt_or_ge j listed.size with h | h
              · exact h
              · simp [Array.getElem?_eq_none h] at hjun
            simp [hlt] at hun
          rw [getD_set_ne true hjk] at hun
          rw [put_env_ne (fun e => hdis k ok j oj hk hoj hkl hjk d hd e)]
          exact hdd k ok hk hkl hun d hd
        · have ei : vcH P ops oi (lk i) (St.put ⟨env, st'⟩ oj.dst sj).env st' (md i) = vcH P ops oi (lk i) env st' (md i) := H_indep fun d hd => put_env_ne (fun e => a3 d e hd)
          rw [ei]
          refine mono_H (fun s st'' h2 => ?_) h
          rw [Array.setIfInBounds_comm _ _ hji]
          have e4 : (⟨(St.put ⟨env, st'⟩ oj.dst sj).env, st''⟩ : St) = St.put ⟨env, st''⟩ oj.dst sj := by cases oj.dst <;> rfl
          rw [e4, put_comm (fun d e e' => a2 d e' e)]
          exact h2
      have forg : ∀ s sj st', Met E ((St.put ⟨env, st'⟩ oi.dst s).put oj.dst sj) → Met E (St.put ⟨env, st'⟩ oi.dst s) := fun s sj st' hX3 => hX3.forget fun d e => by
        rw [put_env_ne (fun e' => a2 d e' e)]
        exact hdd j oj hoj hloose hjun d e
      have ej : ∀ s st', vcH P ops oj (lk j) (St.put ⟨env, st'⟩ oi.dst s).env st' (md j) = vcH P ops oj (lk j) env st' (md j) := fun s st' => H_indep fun d hd => put_env_ne (fun e => a1 d e hd)
      have hjof : ∀ s st', anyS E P ops lk md L (fuel + 1) (listed.setIfInBounds i true) (St.put ⟨env, st'⟩ oi.dst s) → Met E (St.put ⟨env, st'⟩ oi.dst s) →
          vcH P ops oj (lk j) env st' (md j) fun sj st'' => anyS E P ops lk md L fuel ((listed.setIfInBounds i true).setIfInBounds j true) ((St.put ⟨env, st''⟩ oi.dst s).put oj.dst sj) := by
        intro s st' hB hX1
        have hj1 := (hB hX1).2 j (ready_mono hj hji)
        unfold sOp at hj1
        rw [hoj] at hj1
        simp only [put_st] at hj1
        rw [ej] at hj1
        refine mono_H (fun sj st'' h2 => ?_) hj1
        have e4 : (⟨(St.put ⟨env, st'⟩ oi.dst s).env, st''⟩ : St) = St.put ⟨env, st''⟩ oi.dst s := by cases oi.dst <;> rfl
        rw [e4] at h2
        exact h2
      unfold sOp
      rw [hoj]
      simp only
      rcases hcomm with hd | hd | ⟨hn1, hn2⟩ | ⟨hl1, hn1, hl2⟩ | ⟨hl1, hn1, hl2⟩
      · -- the first one goes by the temporaries
        obtain ⟨pre, s0, hdet⟩ := hd env
        have H' := (hdet st _).1 H
        obtain ⟨s, st', ⟨e1, e2⟩, hX1⟩ := realizeH hX ((hdet st fun s st' => s = s0 ∧ st' = st).2 ⟨H'.1, rfl, rfl⟩)
        subst e1 e2
        refine mono_H (fun sj st'' h2 => ?_) (hjof s st' H'.2 hX1)
        exact key sj st'' ((hdet st'' _).2 ⟨H'.1, h2⟩)
      · -- the other one does
        obtain ⟨pre, s0, hdet⟩ := hd env
        obtain ⟨s, st', hB, hX1⟩ := realizeH hX H
        have hp := ((hdet st' _).1 (hjof s st' hB hX1)).1
        refine (hdet st _).2 ⟨hp, key s0 st (mono_H (fun s st' hB => ?_) H)⟩
        exact anyS_met fun hX3 => ((hdet st' _).1 (hjof s st' hB (forg s s0 st' hX3))).2
      · -- neither changes an object
        have N1 := nice_some (P := P) (ops := ops) (o := oi) (lk := lk i) (env := env) (st := st) hn1
        have N2 := nice_some (P := P) (ops := ops) (o := oj) (lk := lk j) (env := env) (st := st) hn2
        obtain ⟨si, st1, ⟨e1, hpi⟩, hX1⟩ := realizeH hX (N1.conj H)
        subst e1
        refine N2.mono (fun sj hpj => ?_) (N2.conj (hjof si st1 (hpi _ H) hX1))
        obtain ⟨_, hpj⟩ := hpj
        refine key sj st1 (N1.mono (fun s hp => ?_) (N1.conj H))
        obtain ⟨_, hp⟩ := hp
        exact anyS_met fun hX3 => hpj _ (hjof s st1 (hp _ H) (forg s sj st1 hX3))

      · -- a load of a variable first, and what leaves variables as they are
        obtain ⟨q, hq⟩ := Option.isSome_iff_exists.1 hn1
        rw [hl1, hq] at H
        obtain ⟨C, pre, s0, hC0, hdet, hC⟩ := ld2 H
        have H' := (hdet st hC0 _).1 H
        obtain ⟨s, st', ⟨e1, e2⟩, hX1⟩ := realizeH (lk := 2) hX ((hdet st hC0 fun s st' => s = s0 ∧ st' = st).2 ⟨H'.1, rfl, rfl⟩)
        subst e1 e2
        have hjo := hjof s st' H'.2 hX1
        rw [hl2] at hjo ⊢
        refine mono_G (fun sj st'' h2 => ⟨h2.1, ?_⟩) hjo
        refine key sj st'' ?_
        rw [hl1, hq]
        exact (hdet st'' ((hC E st' st'' hX h2.1).1 hC0) _).2 ⟨H'.1, h2.2⟩
      · -- the other way
        obtain ⟨q, hq⟩ := Option.isSome_iff_exists.1 hn1
        rw [hl2] at H
        obtain ⟨s, st', ⟨hk, hB⟩, hX1⟩ := realize hX H
        have hj1 := hjof s st' hB hX1
        rw [hl1, hq] at hj1 ⊢
        obtain ⟨C, pre, s0, hC0, hdet, hC⟩ := ld2 hj1
        have hCst := (hC E st st' hX hk).2 hC0
        refine (hdet st hCst _).2 ⟨((hdet st' hC0 _).1 hj1).1, ?_⟩
        refine key s0 st ?_
        rw [hl2]
        refine mono_G (fun s st' h => ⟨h.1, ?_⟩) H
        refine anyS_met fun hX3 => ?_
        have hj2 := hjof s st' h.2 (forg s s0 st' hX3)
        rw [hl1, hq] at hj2
        exact ((hdet st' ((hC E st st' hX h.1).1 hCst) _).1 hj2).2

end
end Go.Sy
