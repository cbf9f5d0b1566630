/- Regions that draw their order: one check by reckoning, and the walk in the text's order. -/
import Derived.Test.YtlnmkolppgkglaaSyQ
set_option linter.all false
set_option maxHeartbeats 4000000
namespace Go.Sy
open Go.RowKit

/-- A condition that asks something and hands on one result, whatever the objects are. -/
def DetT (T : List Ob → Res → Prop) : Prop := ∃ (pre : Prop) (s0 : SV), ∀ st R, T st R ↔ (pre ∧ R s0 st)

theorem DetT.ret (s0 : SV) : DetT fun st R => R s0 st := ⟨True, s0, fun st R => ⟨fun h => ⟨trivial, h⟩, fun h => h.2⟩⟩
theorem DetT.no : DetT fun _ _ => False := ⟨False, .dead, fun st R => ⟨fun h => h.elim, fun h => h.1⟩⟩
theorem DetT.and {T : List Ob → Res → Prop} (c : Prop) (h : DetT T) : DetT fun st R => c ∧ T st R := by
  obtain ⟨pre, s0, h⟩ := h
  exact ⟨c ∧ pre, s0, fun st R => by show (c ∧ T st R) ↔ _; rw [h st R, and_assoc]⟩
theorem DetT.must {T : List Ob → Res → Prop} (b : Bool) (h : DetT T) : DetT fun st R => Sy.must b (T st R) := by
  simp only [must_iff]
  exact h.and _
theorem DetT.get {α : Type} {l : List α} {i : Nat} {c : Prop} (hc : c → i < l.length) (f : α → SV) : DetT fun st R => c ∧ ∀ p, l[i]? = some p → R (f p) st := by
  by_cases h : i < l.length
  · refine ⟨c, f l[i], fun st R => ⟨fun g => ⟨g.1, g.2 _ (List.getElem?_eq_getElem h)⟩, fun g => ⟨g.1, fun p hp => ?_⟩⟩⟩
    rw [List.getElem?_eq_getElem h] at hp
    cases hp
    exact g.2
  · exact ⟨False, .dead, fun st R => ⟨fun g => absurd (hc g.1) h, fun g => g.1.elim⟩⟩

section
variable {P : Program}
theorem det_bin (op : BinOp) (t : TypeId) (x y : SV) : DetT fun st R => vcBin P op t x y fun s => R s st := by
  unfold vcBin
  simp only [onB_iff]
  split
  · cases op <;> first | exact (DetT.ret _).and _ | exact (DetT.ret _).must _ | exact ((DetT.ret _).and _).must _
  · cases op <;> first | exact (DetT.ret _).and _ | exact DetT.ret _ | exact DetT.no
  · cases op <;> first | exact (DetT.ret _).must _ | exact DetT.no.must _
  · cases op <;> first | exact (DetT.ret _).must _ | exact DetT.no.must _
  · exact DetT.no
theorem det_un (op : UnOp) (x : SV) : DetT fun st R => vcUn op x fun s => R s st := by
  unfold vcUn
  split <;> first | exact DetT.ret _ | exact DetT.no
theorem det_fieldAddr (t : TypeId) (x : SV) (f : Nat) : DetT fun st R => vcFieldAddr P t x f fun s => R s st := by
  unfold vcFieldAddr
  split
  · split
    · refine DetT.must _ ?_
      split <;> first | exact DetT.ret _ | exact DetT.no
    · exact DetT.no
  · exact DetT.no
theorem det_part (t : TypeId) (x : SV) (off : Nat) : DetT fun st R => vcPart P t x off fun s => R s st := by
  unfold vcPart
  refine DetT.must _ ?_
  split
  · split
    · exact (DetT.ret _).must _
    · exact DetT.get id _
  · split
    · exact (DetT.ret _).must _
    · exact DetT.get id _
  · exact DetT.no
theorem det_field (t : TypeId) (x : SV) (f : Nat) : DetT fun st R => vcField P t x f fun s => R s st := by
  unfold vcField
  split
  · split
    · exact det_part _ _ _
    · exact DetT.no
  · exact DetT.no
theorem det_index (t : TypeId) (x i : SV) : DetT fun st R => vcIndex P t x i fun s => R s st := by
  unfold vcIndex
  split
  · split
    · exact (DetT.ret _).and _
    · exact DetT.no
  · exact ((det_part _ _ _).must _).and _
  · exact DetT.no
theorem det_build (t : TypeId) (parts : List (Nat × SV)) : DetT fun st R => vcBuild P t parts fun s => R s st := by
  unfold vcBuild
  split
  · split
    · refine DetT.must _ ?_
      split
      · exact DetT.ret _
      · exact DetT.no
    · exact DetT.no
  · split
    · refine DetT.must _ ?_
      split
      · exact DetT.ret _
      · exact DetT.no
    · exact DetT.no
  · exact DetT.no
theorem det_pure (s : SV) {K : PV → List Ob → Res → Prop} (h : ∀ p, DetT (K p)) : DetT fun st R => vcPure true s st fun p st => K p st R := by
  unfold vcPure
  simp only
  split
  · exact h _
  · exact DetT.no
theorem det_parts (e : TypeId) : ∀ (l : List (Nat × SV)) (n : Nat) {K : List PV → List Ob → Res → Prop}, (∀ ps, DetT (K ps)) → DetT fun st R => vcParts P true e l n st fun ps st => K ps st R
  | [], n, K, h => h _
  | (i, v) :: l, n, K, h => by
    unfold vcParts
    exact (det_pure _ (K := fun p st R => Sy.must (p.one && p.cells.length == szOf P e) (vcParts P true e l (n + 1) st fun ps st => K (p :: ps) st R)) fun p => (det_parts e l (n + 1) (K := fun ps st R => K (p :: ps) st R) fun ps => h _).must _).must _
theorem det_buildSlice (t : TypeId) (len : Nat) (parts : List (Nat × SV)) : DetT fun st R => vcBuildSlice P true t len parts false st R := by
  unfold vcBuildSlice
  split
  · rename_i e hu
    split
    · rename_i i hi
      exact DetT.must _ (det_parts e _ _ (K := fun ps st R => if false = true then R (.vref st.length 0) (st ++ [.vec 0 e i.size false ps]) else R (.lit i.size ps) st) fun ps => DetT.ret _)
    · exact DetT.no
  · exact DetT.no
theorem det_low (h : Nat) (lo : Option SV) {K : Nat → Nat → List Ob → Res → Prop} (hk : ∀ l h, DetT (K l h)) : DetT fun st R => vcLow h lo fun l h => K l h st R := by
  unfold vcLow
  split
  · exact (hk _ _).and _
  · exact DetT.no
  · exact hk _ _
theorem det_slice (t : TypeId) (x : SV) (lo hi : Option SV) (ht : (match P.underlying t with | some .string => true | some (.slice _) => true | _ => false) = true) : DetT fun st R => vcSlice P true t x lo hi st R := by
  have hb : ∀ (n : Nat) {K : Nat → Nat → List Ob → Res → Prop}, (∀ l h, DetT (K l h)) → DetT fun st R => vcBounds n lo hi fun l h => K l h st R := by
    intro n K hk
    unfold vcBounds
    split
    · exact (det_low _ _ hk).and _
    · exact DetT.no
    · exact det_low _ _ hk
  unfold vcSlice
  split
  · exact hb _ (K := fun l h st R => R (vS _) st) fun l h => DetT.ret _
  · exact (hb _ (K := fun l h st R => l < _ ∧ R (.sref _ (_ + l) (h - l)) st) fun l h => (DetT.ret _).and _).must _
  · refine DetT.must _ (det_pure _ (K := fun p st R => match p with | .list sz nl xs => Sy.must (sz == szOf P _) (vcBounds xs.length lo hi fun l h => R (.pure (.list sz nl ((xs.drop l).take (h - l)))) st) | _ => False) fun p => ?_)
    split
    · exact (hb _ (K := fun l h st R => R (.pure (.list _ _ ((_ : List PV).drop l |>.take (h - l)))) st) fun l h => DetT.ret _).must _
    · exact DetT.no
  · rename_i hu
    rw [hu] at ht
    cases ht
  · exact DetT.no

/-- Does this operation go by its operands alone, with one result? -/
def isDet (P : Program) (o : Oper) : Bool :=
  match o.op with
  | .move _ | .assign _ | .pick _ _ _ | .binOp _ _ _ _ _ | .unOp _ _ _ | .extract _ _ | .nilCheck _ | .index _ _ _ | .build _ _ | .buildSlice _ _ _ | .fieldAddr _ _ _ | .field _ _ _ | .makeFunc _ _ _ => true
  | .slice t _ _ _ _ => match P.underlying t with | some .string => true | some (.slice _) => true | _ => false
  | .convert s d _ => match P.underlying s with | some (.int _) => true | some .string => true | _ => false
  | _ => false

theorem det_conv (s d : TypeId) (x : SV) (h : (match P.underlying s with | some (.int _) => true | some .string => true | _ => false) = true) : DetT fun st R => vcConv P s d x st fun s => R s st := by
  unfold vcConv
  split
  · split
    · exact DetT.ret _
    · exact DetT.no
  · split
    · exact DetT.ret _
    · exact ((DetT.ret _).and _).must _
    · exact DetT.no
  · split
    · rename_i h1 h2
      rw [h1] at h
      cases h
    · exact DetT.no

theorem det_op {ops : Array Oper} {o : Oper} {ρ : Operand → SV} {q : SV → Prop} (hd : isDet P o = true) : DetT fun st R => vcOp P ops o ρ st (some q) R := by
  unfold isDet at hd
  unfold vcOp
  cases ho : o.op <;> simp only [ho] at hd ⊢ <;> first | cases hd; done | skip
  · exact DetT.ret _
  · exact DetT.ret _
  · split
    · split
      · exact DetT.ret _
      · exact DetT.ret _
    · exact DetT.no
  · exact det_build _ _
  · exact det_buildSlice _ _ _
  · split
    · exact DetT.ret _
    · exact DetT.no
  · exact det_bin _ _ _ _
  · exact det_un _ _
  · exact det_conv _ _ _ hd
  · split
    · split
      · exact DetT.ret _
      · exact (DetT.ret _).must _
    · exact DetT.no
  · exact (det_slice _ _ _ _ hd).must _
  · exact det_fieldAddr _ _ _
  · exact det_field _ _ _
  · exact det_index _ _ _
  · split
    · exact (DetT.ret _).must _
    · exact DetT.no

theorem det_G {ops : Array Oper} {o : Oper} {q : SV → Prop} (hd : isDet P o = true) : Det P ops o (some q) := by
  intro env
  have h1 : DetT fun st R => vcG P ops o env st (some q) R := by
    have h0 : DetT fun st R => vcOp P ops o (St.ev ⟨env, st⟩) st (some q) R := by
      have e : (fun st R => vcOp P ops o (St.ev ⟨env, st⟩) st (some q) R) = fun st R => vcOp P ops o (St.ev ⟨env, []⟩) st (some q) R := by
        funext st R
        have : St.ev ⟨env, st⟩ = St.ev ⟨env, []⟩ := by funext x; cases x <;> rfl
        rw [this]
      rw [e]
      exact det_op hd
    unfold vcG
    split
    · exact h0
    · split
      · exact DetT.no
      · split
        · split
          · exact h0
          · exact DetT.ret _
        · exact DetT.ret _
        · exact DetT.no
  exact h1
end

/-! ## Who waits for whom, by reckoning -/
def maskOf (M : List Nat) (o : Oper) : Nat := o.after.toList.foldl (fun s e => if Region.binds .any e then s ||| (1 <<< e.on ||| M.getD e.on 0) else s) 0
def masks : List Oper → List Nat → List Nat
  | [], M => M
  | o :: r, M => masks r (M ++ [maskOf M o])

section
variable {ops : Array Oper}
theorem foldl_mask {M : List Nat} {i : Nat} : ∀ (l : List Edge) (s : Nat), (l.foldl (fun s e => if Region.binds .any e then s ||| (1 <<< e.on ||| M.getD e.on 0) else s) s).testBit i = true →
    s.testBit i = true ∨ ∃ e ∈ l, Region.binds .any e = true ∧ (e.on = i ∨ (M.getD e.on 0).testBit i = true)
  | [], s, h => .inl h
  | e :: l, s, h => by
    rw [List.foldl_cons] at h
    rcases foldl_mask l _ h with h' | ⟨e', he', hb, h''⟩
    · by_cases hb : Region.binds .any e = true
      · rw [if_pos hb] at h'
        simp only [Nat.testBit_or, Bool.or_eq_true, Nat.one_shiftLeft, Nat.testBit_two_pow, decide_eq_true_eq] at h'
        rcases h' with h' | h' | h'
        · exact .inl h'
        · exact .inr ⟨e, by simp, hb, .inl h'⟩
        · exact .inr ⟨e, by simp, hb, .inr h'⟩
      · rw [if_neg hb] at h'
        exact .inl h'
    · exact .inr ⟨e', by simp [he'], hb, h''⟩

theorem masks_reach : ∀ (l : List Oper) (M : List Nat), (∀ j, l[j]? = ops[M.length + j]?) → (∀ j i, (M.getD j 0).testBit i = true → Reach ops j i) → ∀ j i, ((masks l M).getD j 0).testBit i = true → Reach ops j i
  | [], M, _, h, j, i, hj => h j i hj
  | o :: r, M, hl, h, j, i, hj => by
    unfold masks at hj
    refine masks_reach r (M ++ [maskOf M o]) (fun j => ?_) (fun j i hj => ?_) j i hj
    · have := hl (j + 1)
      rw [List.getElem?_cons_succ] at this
      rw [this, List.length_append]
      simp only [List.length_cons, List.length_nil]
      congr 1
      omega
    · rcases Nat.lt_trichotomy j M.length with hlt | rfl | hgt
      · refine h j i ?_
        rw [List.getD_eq_getElem?_getD, List.getElem?_append_left hlt, ← List.getD_eq_getElem?_getD] at hj
        exact hj
      · rw [List.getD_eq_getElem?_getD, List.getElem?_append_right (Nat.le_refl _)] at hj
        simp only [Nat.sub_self, List.getElem?_cons_zero, Option.getD_some] at hj
        have ho : ops[M.length]? = some o := by simpa using (hl 0).symm
        rcases foldl_mask _ _ hj with h' | ⟨e, he, hb, h'⟩
        · simp at h'
        · rcases h' with rfl | h'
          · exact .one ho (by simpa using he) hb
          · exact .more ho (by simpa using he) hb (h _ _ h')
      · rw [List.getD_eq_getElem?_getD, List.getElem?_eq_none (by simp; omega)] at hj
        simp at hj

/-- The mode of an operation. -/
def modeOf (anys : List Nat) (qs : Nat → SV → Prop) (i : Nat) : Option (SV → Prop) := if anys.contains i then none else some (qs i)
theorem modeOf_some {anys : List Nat} {qs : Nat → SV → Prop} {i : Nat} (h : anys.contains i = false) : modeOf anys qs i = some (qs i) := by unfold modeOf; simp only [h]; rfl

def commB (P : Program) (anys : List Nat) (i j : Nat) (oi oj : Oper) : Bool := (isDet P oi && !anys.contains i) || (isDet P oj && !anys.contains j) || (!anys.contains i && !anys.contains j)
/-- The pairs of operations that may change places, each told of. -/
def pairsB (P : Program) (ops : Array Oper) (anys M : List Nat) (f : Nat → Nat → Oper → Oper → Bool) : Bool :=
  (List.range ops.size).all fun i => (List.range ops.size).all fun j => i == j || (M.getD j 0).testBit i || (M.getD i 0).testBit j || (match ops[i]?, ops[j]? with | some a, some b => f i j a b | _, _ => true)
def backB (ops : Array Oper) : Bool := (List.range ops.size).all fun i => match ops[i]? with | some o => o.after.all fun e => !Region.binds .any e || decide (e.on < i) | none => true
def drawB (P : Program) (ops : Array Oper) (anys : List Nat) : Bool :=
  backB ops && pairsB P ops anys (masks ops.toList []) fun i j a b => a.apart ops b && commB P anys i j a b &&
    (match b.dst with | none => true | some d => (List.range ops.size).all fun k => k == j || (match ops[k]? with | some c => c.dst != some d | none => true))
def deadAt (env : List SV) (d : Option Tmp) : Bool := match d with | none => true | some d => match env.getD d .dead with | .dead => true | _ => false
def deadB (P : Program) (ops : Array Oper) (env : List SV) : Bool :=
  pairsB P ops [] (masks ops.toList []) fun _ _ _ b => deadAt env b.dst

theorem pairs_spec {P : Program} {anys : List Nat} {f : Nat → Nat → Oper → Oper → Bool} (h : pairsB P ops anys (masks ops.toList []) f = true) {i j : Nat} {oi oj : Oper} (hi : ops[i]? = some oi) (hj : ops[j]? = some oj) (hne : i ≠ j)
    (h1 : ¬Reach ops j i) (h2 : ¬Reach ops i j) : f i j oi oj = true := by
  have hr : ∀ j i, ((masks ops.toList []).getD j 0).testBit i = true → Reach ops j i := fun j i => masks_reach ops.toList [] (fun j => by simp) (fun j i h => by simp at h) j i
  have := List.all_eq_true.1 (List.all_eq_true.1 h i (List.mem_range.2 (Array.getElem?_eq_some_iff.1 hi).1)) j (List.mem_range.2 (Array.getElem?_eq_some_iff.1 hj).1)
  simp only [hi, hj, Bool.or_eq_true, beq_iff_eq] at this
  rcases this with ((h' | h') | h') | h'
  · exact absurd h' hne
  · exact absurd (hr _ _ h') h1
  · exact absurd (hr _ _ h') h2
  · exact h'

variable {E : Ent} {P : Program} {K : St → Prop} {md : Nat → Option (SV → Prop)}

/-- The walk in the text's order, each operation in its mode. -/
def vcLex (P : Program) (ops : Array Oper) (md : Nat → Option (SV → Prop)) : Nat → List Oper → St → (St → Prop) → Prop
  | _, [], σ, K => K σ
  | i, o :: l, σ, K => vcGuard P ops o σ (md i) fun σ' => vcLex P ops md (i + 1) l σ' K

theorem lex_any (hback : backB ops = true)
    (hap : ∀ i j oi oj, ops[i]? = some oi → ops[j]? = some oj → j ≠ i → ¬Reach ops j i → ¬Reach ops i j → oi.apart ops oj = true ∧ Comm P ops md i j oi oj)
    (hdis : ∀ j oj k ok, ops[j]? = some oj → ops[k]? = some ok → Loose ops j → k ≠ j → ∀ d, oj.dst = some d → ok.dst ≠ some d) : ∀ (l : List Oper) (i : Nat) (env : List SV) (st : List Ob) (listed : Array Bool), i + l.length = ops.size → (∀ j, l[j]? = ops[i + j]?) →
    Closed ops listed → (∀ j, j < i → listed.getD j false = true) → (∀ j, i ≤ j → j < ops.size → listed.getD j true = false) →
    (∀ j oj, ops[j]? = some oj → Loose ops j → listed.getD j true = false → ∀ d, oj.dst = some d → env.getD d .dead = .dead) →
    vcLex P ops md i l ⟨env, st⟩ K →
    anyS E P ops md (fun listed σ => Region.ready .any ops listed = [] ∧ K σ) l.length listed ⟨env, st⟩
  | [], i, env, st, listed, hi, hl, inv, h1, h2, hdd, h => by
    intro _
    refine ⟨?_, h⟩
    rw [List.eq_nil_iff_forall_not_mem]
    intro j hj
    obtain ⟨hun, o, ho, _⟩ := mem_ready.1 hj
    have := h1 j (by have := (Array.getElem?_eq_some_iff.1 ho).1; simp at hi; omega)
    rw [getD_both hun] at this
    cases this
  | o :: l, i, env, st, listed, hi, hl, inv, h1, h2, hdd, h => by
    have h0 : ops[i]? = some o := by simpa using (hl 0).symm
    have hlt : i < ops.size := (Array.getElem?_eq_some_iff.1 h0).1
    have hr' : i ∈ Region.ready .any ops listed := mem_ready.2 ⟨h2 i (Nat.le_refl _) hlt, o, h0, fun e he hb => by
      have := List.all_eq_true.1 hback i (List.mem_range.2 hlt)
      rw [h0] at this
      have := Array.all_eq_true_iff_forall_mem.1 this e he
      simp only [hb, Bool.not_true, Bool.false_or, decide_eq_true_eq] at this
      exact h1 _ this⟩
    unfold vcLex at h
    rw [guard_iff] at h
    refine any_first h0 (fun listed σ hL => hL.1) (fun j oj hj hji hn1 hn2 => hap i j o oj h0 hj hji hn1 hn2) hdis l.length listed env st inv hdd hr' ?_
    refine mono_G (fun s st' hR => ?_) h
    have e4 : ∀ σ : St, σ = ⟨σ.env, σ.st⟩ := fun σ => rfl
    rw [e4 (St.put ⟨env, st'⟩ o.dst s)] at hR ⊢
    refine lex_any hback hap hdis l (i + 1) _ _ _ (by simp at hi; omega) (fun j => by have := hl (j + 1); simpa [Nat.add_assoc, Nat.add_comm 1 j] using this) (inv.set hr') (fun j hj => ?_) (fun j hj hjs => ?_) ?_ hR
    · by_cases e : j = i
      · subst e
        have : j < listed.size := by rw [inv.size]; exact hlt
        simp [this]
      · exact getD_set_true (h1 j (by omega))
    · rw [getD_set_ne true (by omega)]
      exact h2 j (by omega) hjs
    · intro j oj hj hjl hun d hd
      have hij : i ≠ j := by
        rintro rfl
        have hlt : i < listed.size := by rw [inv.size]; exact (Array.getElem?_eq_some_iff.1 h0).1
        simp [hlt] at hun
      rw [getD_set_ne true hij] at hun
      rw [put_env_ne (fun e => hdis j oj i o hj h0 hjl hij d hd e)]
      exact hdd j oj hj hjl hun d hd
end

/-- **A region that draws its order**: by the walk in the text's order. The operations in 'anys' may change objects; what each other call gives is told ahead. -/
theorem hand_draw {P : Program} {k : Kx} {id : Nat} {ops : Array Oper} {σ : St} {Q : Exit → St → Prop} (anys : List Nat) (qs : Nat → SV → Prop) (hP : P.follows .mixedOrders = true) (hB : drawB P ops anys = true) (hd : deadB P ops σ.env = true)
    (h : vcLex P ops (modeOf anys qs) 0 ops.toList σ (Q .normal)) : Hand P k (.region id ops true) σ Q := by
  refine ⟨fun E a w hk hr => ?_⟩
  simp only [drawB, Bool.and_eq_true] at hB
  obtain ⟨hback, hpairs⟩ := hB
  have closed0 : Closed ops (Array.replicate ops.size false) := by
    refine ⟨by simp, fun j oj _ hl => ?_⟩
    rcases Nat.lt_or_ge j ops.size with h | h
    · simp [h] at hl
    · simp [h] at hl
  have unl : ∀ j, j < ops.size → (Array.replicate ops.size false).getD j true = false := fun j hj => by simp [hj]
  have hap : ∀ i j oi oj, ops[i]? = some oi → ops[j]? = some oj → j ≠ i → ¬Reach ops j i → ¬Reach ops i j → oi.apart ops oj = true ∧ Comm P ops (modeOf anys qs) i j oi oj := by
    intro i j oi oj hi hj hji h1 h2
    have := pairs_spec hpairs hi hj (Ne.symm hji) h1 h2
    simp only [Bool.and_eq_true] at this
    obtain ⟨⟨h3, h4⟩, _⟩ := this
    refine ⟨h3, ?_⟩
    unfold commB at h4
    simp only [Bool.or_eq_true, Bool.and_eq_true, Bool.not_eq_true'] at h4
    rcases h4 with (⟨h5, h6⟩ | ⟨h5, h6⟩) | ⟨h5, h6⟩
    · exact .inl (by rw [modeOf_some h6]; exact det_G h5)
    · exact .inr (.inl (by rw [modeOf_some h6]; exact det_G h5))
    · exact .inr (.inr ⟨by rw [modeOf_some h5]; rfl, by rw [modeOf_some h6]; rfl⟩)
  have hdis : ∀ j oj k ok, ops[j]? = some oj → ops[k]? = some ok → Loose ops j → k ≠ j → ∀ d, oj.dst = some d → ok.dst ≠ some d := by
    intro j oj k ok hj hk ⟨i, his, hij, h1, h2⟩ hkj d hd' hd''
    have := pairs_spec hpairs (Array.getElem?_eq_getElem his) hj hij h2 h1
    simp only [hd', Bool.and_eq_true] at this
    have := List.all_eq_true.1 this.2 k (List.mem_range.2 (Array.getElem?_eq_some_iff.1 hk).1)
    simp [hk, hkj, hd''] at this
  have hdd : ∀ j oj, ops[j]? = some oj → Loose ops j → (Array.replicate ops.size false).getD j true = false → ∀ d, oj.dst = some d → σ.env.getD d .dead = .dead := by
    intro j oj hj ⟨i, his, hij, h1, h2⟩ _ d hd'
    have := pairs_spec hd (Array.getElem?_eq_getElem his) hj hij h2 h1
    simp only [deadAt, hd'] at this
    split at this
    · assumption
    · cases this
  have H := lex_any (E := E) hback hap hdis ops.toList 0 σ.env σ.st _ (by simp) (fun j => by simp) closed0 (fun j hj => by omega) (fun j _ hj => unl j hj) hdd h
  refine wpIn_region_any hP ?_
  have hr' : Rel E σ a { w with drawn := w.drawn + 1 } := by
    obtain ⟨χ, G, hf⟩ := hr
    exact ⟨χ, G, Fits.ext (χ := χ) (w' := { w with drawn := w.drawn + 1 }) hf rfl rfl rfl (Nat.le_refl _) fun b _ => ⟨rfl, rfl⟩⟩
  have := any_sound (Q := fun e a' w' => ∃ σ', Q e σ' ∧ Rel E σ' a' w') (fun listed σ' a' w' hL hr'' => ⟨hL.1, _, hL.2, hr''⟩) _ _ _ _ _ H hr'
  simpa using this
end Go.Sy
