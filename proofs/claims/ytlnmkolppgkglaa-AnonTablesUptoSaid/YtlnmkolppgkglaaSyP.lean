/- Regions that draw their order: what the walk in the text's order shows holds in every order. -/
import Derived.Test.YtlnmkolppgkglaaSyO
import Derived.Orders
import Derived.Still
set_option linter.all false
set_option maxHeartbeats 4000000
namespace Go.Sy
open Go.RowKit

/-- A condition that asks something and hands on some of a set of results, the objects as they were. -/
def Nice (st : List Ob) (T : Res → Prop) : Prop := ∃ (pre : Prop) (post : SV → Prop), ∀ R, T R ↔ (pre ∧ ∀ s, post s → R s st)

section
variable {st : List Ob}
theorem Nice.ret (s0 : SV) : Nice st fun R => R s0 st := ⟨True, fun s => s = s0, fun R => ⟨fun h => ⟨trivial, fun s e => by rw [e]; exact h⟩, fun h => h.2 s0 rfl⟩⟩
theorem Nice.no : Nice st fun _ => False := ⟨False, fun _ => True, fun R => ⟨fun h => h.elim, fun h => h.1⟩⟩
theorem Nice.and {T : Res → Prop} (c : Prop) (h : Nice st T) : Nice st fun R => c ∧ T R := by
  obtain ⟨pre, post, h⟩ := h
  exact ⟨c ∧ pre, post, fun R => by show (c ∧ T R) ↔ _; rw [h R, and_assoc]⟩
theorem Nice.must {T : Res → Prop} (b : Bool) (h : Nice st T) : Nice st fun R => must b (T R) := by
  simp only [must_iff]
  exact h.and _
theorem Nice.imp {T : Res → Prop} (c : Prop) (h : Nice st T) : Nice st fun R => c → T R := by
  obtain ⟨pre, post, h⟩ := h
  refine ⟨c → pre, fun s => c ∧ post s, fun R => ⟨fun g => ⟨fun hc => ((h R).1 (g hc)).1, fun s ⟨hc, hp⟩ => ((h R).1 (g hc)).2 s hp⟩, fun g hc => (h R).2 ⟨g.1 hc, fun s hp => g.2 s ⟨hc, hp⟩⟩⟩⟩
theorem Nice.all {α : Type} {T : α → Res → Prop} (h : ∀ x, Nice st (T x)) : Nice st fun R => ∀ x, T x R := by
  refine ⟨∀ x, (h x).choose, fun s => ∃ x, (h x).choose_spec.choose s, fun R => ⟨fun g => ⟨fun x => (((h x).choose_spec.choose_spec R).1 (g x)).1, fun s ⟨x, hp⟩ => (((h x).choose_spec.choose_spec R).1 (g x)).2 s hp⟩,
    fun g x => ((h x).choose_spec.choose_spec R).2 ⟨g.1 x, fun s hp => g.2 s ⟨x, hp⟩⟩⟩⟩

theorem Nice.mono {T : Res → Prop} (h : Nice st T) {R R' : Res} (hr : ∀ s, R s st → R' s st) (g : T R) : T R' := by
  obtain ⟨pre, post, h⟩ := h
  exact (h R').2 ⟨((h R).1 g).1, fun s hp => hr s (((h R).1 g).2 s hp)⟩
/-- All that any result meets, and the objects as they were. -/
theorem Nice.conj {T : Res → Prop} (h : Nice st T) {R : Res} (g : T R) : T fun s st' => st' = st ∧ ∀ R', T R' → R' s st := by
  obtain ⟨pre, post, h⟩ := h
  exact (h _).2 ⟨((h R).1 g).1, fun s hp => ⟨rfl, fun R' g' => ((h R').1 g').2 s hp⟩⟩
end

section
variable {P : Program}

theorem nice_bin (op : BinOp) (t : TypeId) (x y : SV) (st : List Ob) : Nice st fun R => vcBin P op t x y fun s => R s st := by
  unfold vcBin
  simp only [onB_iff]
  split
  · cases op <;> first | exact (Nice.ret _).and _ | exact (Nice.ret _).must _ | exact ((Nice.ret _).and _).must _
  · cases op <;> first | exact (Nice.ret _).and _ | exact Nice.ret _ | exact Nice.no
  · cases op <;> first | exact (Nice.ret _).must _ | exact Nice.no.must _
  · cases op <;> first | exact (Nice.ret _).must _ | exact Nice.no.must _
  · exact Nice.no

theorem nice_min (x y : SV) (st : List Ob) : Nice st fun R => vcMin x y fun s => R s st := by
  unfold vcMin
  split
  · exact Nice.ret _
  · exact Nice.no
theorem nice_max (x y : SV) (st : List Ob) : Nice st fun R => vcMax x y fun s => R s st := by
  unfold vcMax
  split
  · exact Nice.ret _
  · exact Nice.no
theorem nice_un (op : UnOp) (x : SV) (st : List Ob) : Nice st fun R => vcUn op x fun s => R s st := by
  unfold vcUn
  split <;> first | exact Nice.ret _ | exact Nice.no

theorem nice_elems (x : SV) (st : List Ob) {K : Nat → List PV → Res → Prop} (h : ∀ sz xs, Nice st (K sz xs)) : Nice st fun R => vcElems x st fun sz xs => K sz xs R := by
  unfold vcElems
  split
  · exact h _ _
  · exact h _ _
  · split
    · exact (h _ _).must _
    · exact Nice.no
  · split
    · split
      · exact h _ _
      · exact Nice.no
    · split
      · exact h _ _
      · exact Nice.no
    · exact Nice.no
  · exact Nice.no

theorem nice_pure (s : SV) (st : List Ob) {K : PV → List Ob → Res → Prop} (h : ∀ p, Nice st (K p st)) : Nice st fun R => vcPure true s st fun p st => K p st R := by
  unfold vcPure
  simp only
  split
  · exact h _
  · exact Nice.no

theorem nice_conv (s d : TypeId) (x : SV) (st : List Ob) : Nice st fun R => vcConv P s d x st fun s => R s st := by
  unfold vcConv
  split
  · split
    · exact Nice.ret _
    · exact Nice.no
  · split
    · exact Nice.ret _
    · exact ((Nice.ret _).and _).must _
    · exact Nice.no
  · split
    · exact (nice_elems _ _ fun sz xs => (Nice.all fun l => (Nice.ret _).imp _).and _).must _
    · exact Nice.no

theorem nice_len (t : TypeId) (x : SV) (st : List Ob) : Nice st fun R => vcLen P t x st fun s => R s st := by
  unfold vcLen
  split
  · split
    · exact Nice.ret _
    · exact nice_elems _ _ fun sz xs => (Nice.ret _).imp _
  · split
    · exact Nice.ret _
    · exact Nice.no
  · exact Nice.ret _
  · exact Nice.no

theorem nice_indexAddr (t : TypeId) (x i : SV) (st : List Ob) : Nice st fun R => vcIndexAddr P t x i st fun s => R s st := by
  unfold vcIndexAddr
  split
  · split
    · exact ((Nice.all fun p => (Nice.ret _).imp _).and _).must _
    · split
      · exact ((Nice.ret _).and _).must _
      · exact ((Nice.all fun p => (Nice.ret _).imp _).and _).must _
      · exact Nice.no
    · exact ((Nice.ret _).and _).must _
    · exact Nice.no
  · refine Nice.must _ (Nice.and _ ?_)
    split
    · exact Nice.ret _
    · exact Nice.ret _
    · exact Nice.ret _
    · exact Nice.no
  · exact Nice.no

theorem nice_load (t : TypeId) (x : SV) (st : List Ob) : Nice st fun R => vcLoad P t x st fun s => R s st := by
  unfold vcLoad
  refine Nice.must _ ?_
  split
  · split
    · exact (Nice.ret _).must _
    · split
      · exact Nice.ret _
      · exact Nice.no
  · split
    · split
      · exact (Nice.ret _).must _
      · exact (Nice.ret _).must _
    · split
      · exact (Nice.ret _).must _
      · exact (Nice.all fun p => (Nice.ret _).imp _).and _
    · exact Nice.no
  · split
    · refine Nice.must _ (Nice.and _ (Nice.all fun p => Nice.imp _ ?_))
      split
      · exact (Nice.ret _).must _
      · exact (Nice.ret _).must _
    · exact Nice.no
  · exact Nice.no

theorem nice_fieldAddr (t : TypeId) (x : SV) (f : Nat) (st : List Ob) : Nice st fun R => vcFieldAddr P t x f fun s => R s st := by
  unfold vcFieldAddr
  split
  · split
    · refine Nice.must _ ?_
      split <;> first | exact Nice.ret _ | exact Nice.no
    · exact Nice.no
  · exact Nice.no

theorem nice_part (t : TypeId) (x : SV) (off : Nat) (st : List Ob) : Nice st fun R => vcPart P t x off fun s => R s st := by
  unfold vcPart
  refine Nice.must _ ?_
  split
  · split
    · exact (Nice.ret _).must _
    · exact (Nice.all fun p => (Nice.ret _).imp _).and _
  · split
    · exact (Nice.ret _).must _
    · exact (Nice.all fun p => (Nice.ret _).imp _).and _
  · exact Nice.no

theorem nice_field (t : TypeId) (x : SV) (f : Nat) (st : List Ob) : Nice st fun R => vcField P t x f fun s => R s st := by
  unfold vcField
  split
  · split
    · exact nice_part _ _ _ _
    · exact Nice.no
  · exact Nice.no

theorem nice_index (t : TypeId) (x i : SV) (st : List Ob) : Nice st fun R => vcIndex P t x i fun s => R s st := by
  unfold vcIndex
  split
  · split
    · exact (Nice.ret _).and _
    · exact Nice.no
  · exact ((nice_part _ _ _ _).must _).and _
  · exact Nice.no

theorem nice_build (t : TypeId) (parts : List (Nat × SV)) (st : List Ob) : Nice st fun R => vcBuild P t parts fun s => R s st := by
  unfold vcBuild
  split
  · split
    · refine Nice.must _ ?_
      split
      · exact Nice.ret _
      · exact Nice.no
    · exact Nice.no
  · split
    · refine Nice.must _ ?_
      split
      · exact Nice.ret _
      · exact Nice.no
    · exact Nice.no
  · exact Nice.no

theorem nice_parts (e : TypeId) (st : List Ob) : ∀ (l : List (Nat × SV)) (n : Nat) {K : List PV → List Ob → Res → Prop}, (∀ ps, Nice st (K ps st)) → Nice st fun R => vcParts P true e l n st fun ps st => K ps st R
  | [], n, K, h => h _
  | (i, v) :: l, n, K, h => by
    unfold vcParts
    exact (nice_pure _ _ (K := fun p st R => must (p.one && p.cells.length == szOf P e) (vcParts P true e l (n + 1) st fun ps st => K (p :: ps) st R)) fun p => (nice_parts e st l (n + 1) (K := fun ps st R => K (p :: ps) st R) fun ps => h _).must _).must _

theorem nice_appendQ (t t' : TypeId) (s x : SV) (st : List Ob) : Nice st fun R => vcAppendQ P t t' s x st fun s => R s st := by
  unfold vcAppendQ
  split
  · split
    · refine Nice.must _ (nice_elems _ _ fun sz ys => Nice.must _ ?_)
      split
      · exact (Nice.ret _).and _
      · exact ((Nice.ret _).and _).must _
      · exact Nice.no
    · exact Nice.no
  · exact Nice.no

theorem nice_buildSlice (t : TypeId) (len : Nat) (parts : List (Nat × SV)) (st : List Ob) : Nice st fun R => vcBuildSlice P true t len parts false st R := by
  unfold vcBuildSlice
  split
  · rename_i e hu
    split
    · rename_i i hi
      exact Nice.must _ (nice_parts _ _ _ _ (K := fun ps st R => if false = true then R (.vref st.length 0) (st ++ [.vec 0 e i.size false ps]) else R (.lit i.size ps) st) fun ps => Nice.ret _)
    · exact Nice.no
  · exact Nice.no

theorem nice_low {st : List Ob} (h : Nat) (lo : Option SV) {K : Nat → Nat → Res → Prop} (hk : ∀ l h, Nice st (K l h)) : Nice st fun R => vcLow h lo fun l h => K l h R := by
  unfold vcLow
  split
  · exact (hk _ _).and _
  · exact Nice.no
  · exact hk _ _

theorem nice_slice (t : TypeId) (x : SV) (lo hi : Option SV) (st : List Ob) : Nice st fun R => vcSlice P true t x lo hi st R := by
  have hb : ∀ (n : Nat) {K : Nat → Nat → Res → Prop}, (∀ l h, Nice st (K l h)) → Nice st fun R => vcBounds n lo hi fun l h => K l h R := by
    intro n K hk
    unfold vcBounds
    split
    · exact (nice_low _ _ hk).and _
    · exact Nice.no
    · exact nice_low _ _ hk
  unfold vcSlice
  split
  · exact hb _ fun l h => Nice.ret _
  · exact (hb _ fun l h => (Nice.ret _).and _).must _
  · refine Nice.must _ (nice_pure _ _ (K := fun p st R => match p with | .list sz nl xs => must (sz == szOf P _) (vcBounds xs.length lo hi fun l h => R (.pure (.list sz nl ((xs.drop l).take (h - l)))) st) | _ => False) fun p => ?_)
    split
    · exact (hb _ fun l h => Nice.ret _).must _
    · exact Nice.no
  · exact ⟨False, fun _ => True, fun R => ⟨fun h => by simp [must] at h, fun h => h.1.elim⟩⟩
  · exact Nice.no

theorem nice_call (f : FuncId) (args : List SV) (st : List Ob) (q : SV → Prop) : Nice st fun R => CallIn P f args st (some q) R := by
  refine ⟨(CallOk P f (args.map (SV.fz st)) [] fun r st' => st' = [] ∧ q r) ∧ SV.inL 0 (args.map (SV.fz st)) = true ∧ (args.map (SV.fz st) = args ∨ ∀ r, q r → r.flat = true), q, fun R => ⟨fun h => ?_, fun h => ?_⟩⟩
  · cases h with
    | draw h hn hf k => exact ⟨⟨h, hn, hf⟩, k⟩
  · obtain ⟨⟨h1, h2, h3⟩, h4⟩ := h
    exact .draw h1 h2 h3 h4

/-- In a region that draws, each operation is such a condition. -/
theorem nice_op (ops : Array Oper) (o : Oper) (ρ : Operand → SV) (st : List Ob) (q : SV → Prop) : Nice st fun R => vcOp P ops o ρ st (some q) R := by
  have hno : ∀ K : Res → Prop, Nice st fun R => must (some q).isNone (K R) := fun K => ⟨False, fun _ => True, fun R => ⟨fun h => by simp [must] at h, fun h => h.1.elim⟩⟩
  unfold vcOp
  split
  · exact Nice.ret _
  · exact Nice.ret _
  · split
    · split
      · exact Nice.ret _
      · exact Nice.ret _
    · exact Nice.no
  · exact nice_bin _ _ _ _ _
  · exact nice_un _ _ _
  · exact nice_conv _ _ _ _
  · split
    · exact (Nice.ret _).must _
    · exact Nice.no
  · split
    · exact Nice.ret _
    · exact Nice.no
  · exact nice_indexAddr _ _ _ _
  · exact nice_index _ _ _ _
  · exact nice_load _ _ _
  · exact hno _
  · exact hno _
  · exact nice_build _ _ _
  · exact nice_buildSlice _ _ _ _
  · exact (nice_slice _ _ _ _ _).must _
  · exact hno _
  · exact hno _
  · exact nice_fieldAddr _ _ _ _
  · exact nice_field _ _ _ _
  · split
    · split
      · exact nice_len _ _ _
      · exact Nice.no
    · split
      · exact nice_appendQ _ _ _ _ _
      · exact Nice.no
    · exact hno _
    · exact hno _
    · split
      · exact nice_min _ _ _
      · exact Nice.no
    · split
      · exact nice_max _ _ _
      · exact Nice.no
    · refine Nice.must _ ?_
      split
      · exact nice_call _ _ _ _
      · exact nice_call _ _ _ _
      · exact nice_call _ _ _ _
      · exact hno _
      · exact Nice.no
    · exact Nice.no
  · split
    · split
      · exact Nice.ret _
      · exact (Nice.ret _).must _
    · exact Nice.no
  · exact Nice.no

/-- Only the operands count. -/
theorem op_indep {ops : Array Oper} {o : Oper} {ρ ρ' : Operand → SV} {st : List Ob} {q : Option (SV → Prop)} (h : ∀ x ∈ o.op.operands, ρ x = ρ' x) : vcOp P ops o ρ st q = vcOp P ops o ρ' st q := by
  funext R
  have hargs : ∀ c : Call, (∀ x ∈ c.args, ρ x = ρ' x) → argsOf P ρ c = argsOf P ρ' c := by
    intro c hc
    unfold argsOf
    refine List.map_congr_left fun ⟨x, t⟩ hx => ?_
    show nilAt P t (ρ x) = nilAt P t (ρ' x)
    rw [hc x (by simpa using (List.of_mem_zip hx).1)]
  have hparts : ∀ parts : Array (Nat × Operand), (∀ x ∈ (parts.toList.map (·.2)).toArray, ρ x = ρ' x) → (parts.toList.map fun (i, x) => (i, ρ x)) = (parts.toList.map fun (i, x) => (i, ρ' x)) := by
    intro parts hp
    refine List.map_congr_left fun ⟨i, x⟩ hx => ?_
    show (i, ρ x) = (i, ρ' x)
    rw [hp x (by simp; exact ⟨i, by simpa using hx⟩)]
  unfold vcOp
  cases ho : o.op with
  | move x => simp only [ho, Op.operands] at h ⊢; rw [h x (by simp)]
  | assign x => simp only [ho, Op.operands] at h ⊢; rw [h x (by simp)]
  | pick c a b => simp only [ho, Op.operands] at h ⊢; rw [h c (by simp), h a (by simp), h b (by simp)]
  | alloc t => rfl
  | box t x => simp only [ho, Op.operands] at h ⊢; rw [h x (by simp)]
  | build t parts => simp only [ho, Op.operands] at h ⊢; rw [hparts parts h]
  | buildSlice t len parts => simp only [ho, Op.operands] at h ⊢; rw [hparts parts h]
  | load t x => simp only [ho, Op.operands] at h ⊢; rw [h x (by simp)]
  | store t x v => simp only [ho, Op.operands] at h ⊢; rw [h x (by simp), h v (by simp)]
  | nilCheck x => simp only [ho, Op.operands] at h ⊢; rw [h x (by simp)]
  | binOp op t x y yt => simp only [ho, Op.operands] at h ⊢; rw [h x (by simp), h y (by simp)]
  | unOp op t x => simp only [ho, Op.operands] at h ⊢; rw [h x (by simp)]
  | convert s d x => simp only [ho, Op.operands] at h ⊢; rw [h x (by simp)]
  | makeFunc fn first caps =>
    simp only [ho, Op.operands] at h ⊢
    have : caps.toList.map ρ = caps.toList.map ρ' := List.map_congr_left fun x hx => h x (by simp at hx ⊢; exact .inr hx)
    have h2 : ∀ x ∈ first.toList, ρ x = ρ' x := fun x hx => h x (by simp at hx ⊢; exact .inl hx)
    rw [this]
    split
    · split
      · rfl
      · rename_i x r e1
        have : (x :: r).map ρ = (x :: r).map ρ' := List.map_congr_left fun y hy => h2 y (by rw [e1]; exact hy)
        rw [this]
    · rfl
  | makeSlice t l c => simp only [ho, Op.operands] at h ⊢; rw [h l (by simp), h c (by simp)]
  | slice t x lo hi mx =>
    simp only [ho, Op.operands] at h ⊢
    have h1 : lo.map ρ = lo.map ρ' := by cases lo with | none => rfl | some y => simp only [Option.map_some]; rw [h y (by simp)]
    have h2 : hi.map ρ = hi.map ρ' := by cases hi with | none => rfl | some y => simp only [Option.map_some]; rw [h y (by simp)]
    rw [h x (by simp), h1, h2]
  | fieldAddr t x f => simp only [ho, Op.operands] at h ⊢; rw [h x (by simp)]
  | field t x f => simp only [ho, Op.operands] at h ⊢; rw [h x (by simp)]
  | indexAddr t x i => simp only [ho, Op.operands] at h ⊢; rw [h x (by simp), h i (by simp)]
  | index t x i => simp only [ho, Op.operands] at h ⊢; rw [h x (by simp), h i (by simp)]
  | extract t i => simp only [ho, Op.operands] at h ⊢; rw [h t (by simp)]
  | call c =>
    simp only [ho, Op.operands, Call.operands] at h ⊢
    have hc : ∀ x ∈ c.args, ρ x = ρ' x := fun x hx => h x (by simp [hx])
    split
    · split
      · rename_i x t e1 e2
        rw [hc x (by rw [← Array.mem_toList_iff, e1]; simp)]
      · rfl
    · split
      · rename_i s x t t' e1 e2
        rw [hc s (by rw [← Array.mem_toList_iff, e1]; simp), hc x (by rw [← Array.mem_toList_iff, e1]; simp)]
      · rfl
    · split
      · rename_i d x t t' e1 e2
        rw [hc d (by rw [← Array.mem_toList_iff, e1]; simp), hc x (by rw [← Array.mem_toList_iff, e1]; simp)]
      · rfl
    · split
      · rename_i x t e1 e2
        rw [hc x (by rw [← Array.mem_toList_iff, e1]; simp)]
      · rfl
    · split
      · rename_i x y e1
        rw [hc x (by rw [← Array.mem_toList_iff, e1]; simp), hc y (by rw [← Array.mem_toList_iff, e1]; simp)]
      · rfl
    · split
      · rename_i x y e1
        rw [hc x (by rw [← Array.mem_toList_iff, e1]; simp), hc y (by rw [← Array.mem_toList_iff, e1]; simp)]
      · rfl
    · rename_i f hf
      have hf' : ρ f = ρ' f := h f (by simp [hf])
      rw [hf', hargs c hc]
    · rfl
  | _ => rfl

end
end Go.Sy
