/- Part 4 of 8: the walks and laws on which the last part rests. No conditions. -/
import Derived.Test.YtafngalmkblipaaGreatDoorQ3
import Derived.Test.YtafngalmkblipaaGreatDoorRows
import Derived.DataReads
import Derived.Carry
import Derived.ChangeSame
import Derived.JoinedCond
import Derived.OpenShut
import Derived.ChangeShapes
import Derived.ChangeArms
import Derived.WideShapes
import Derived.Lib.BytesEntry
import Derived.Conc.MuLone
import Derived.Conc.MuLib
import Derived.Conc.MuData
/- Regions that draw their order: one check by reckoning, and the walk in the text's order. -/
set_option linter.all false
set_option maxHeartbeats 4000000
namespace Go.Sy
open Go.RowKit

/-- A condition that asks something and hands on one result, whatever the objects are. -/
def DetT (T : List Ob → Res → Prop) : Prop := ∃ (pre : Prop) (s0 : SV), ∀ st R, T st R ↔ (pre ∧ R s0 st)

theorem DetT.ret (s0 : SV) : DetT fun st R => R s0 st := ⟨True, s0, fun st R => ⟨fun h => ⟨trivial, h⟩, fun h => h.2⟩⟩
theorem DetT.no : DetT fun _ _ => False := ⟨False, .dead, fun st R => ⟨fun h => h.elim, fun h => h.1⟩⟩
theorem DetT.and {T : List Ob → Res → Prop} (c : Prop) (h : DetT T) : DetT fun st R => c ∧ T st R := by
  obtain ⟨pre, s0, h⟩ := h
  exact ⟨c ∧ pre, s0, fun st R => by show (c ∧ T st R) ↔ _; rw [h st R, and_assoc]⟩
theorem DetT.must {T : List Ob → Res → Prop} (b : Bool) (h : DetT T) : DetT fun st R => Sy.must b (T st R) := by
  simp only [must_iff]
  exact h.and _
theorem DetT.get {α : Type} {l : List α} {i : Nat} {c : Prop} (hc : c → i < l.length) (f : α → SV) : DetT fun st R => c ∧ ∀ p, l[i]? = some p → R (f p) st := by
  by_cases h : i < l.length
  · refine ⟨c, f l[i], fun st R => ⟨fun g => ⟨g.1, g.2 _ (List.getElem?_eq_getElem h)⟩, fun g => ⟨g.1, fun p hp => ?_⟩⟩⟩
    rw [List.getElem?_eq_getElem h] at hp
    cases hp
    exact g.2
  · exact ⟨False, .dead, fun st R => ⟨fun g => absurd (hc g.1) h, fun g => g.1.elim⟩⟩

section
variable {P : Program}
theorem det_bin (op : BinOp) (t : TypeId) (x y : SV) : DetT fun st R => vcBin P op t x y fun s => R s st := by
  unfold vcBin
  simp only [onB_iff]
  split
  · cases op <;> first | exact (DetT.ret _).and _ | exact (DetT.ret _).must _ | exact ((DetT.ret _).and _).must _
  · cases op <;> first | exact (DetT.ret _).and _ | exact DetT.ret _ | exact DetT.no
  · cases op <;> first | exact (DetT.ret _).must _ | exact DetT.no.must _
  · cases op <;> first | exact (DetT.ret _).must _ | exact DetT.no.must _
  · cases op <;> first | exact (DetT.ret _).must _ | exact DetT.no.must _
  · cases op <;> first | exact (DetT.ret _).must _ | exact DetT.no.must _
  · cases op <;> first | exact (DetT.ret _).must _ | exact DetT.no.must _
  · split
    · cases op <;> first | exact DetT.ret _ | exact DetT.no
    · exact DetT.no
  · exact DetT.no
theorem det_un (op : UnOp) (x : SV) : DetT fun st R => vcUn op x fun s => R s st := by
  unfold vcUn
  split <;> first | exact DetT.ret _ | exact DetT.no
theorem det_fieldAddr (t : TypeId) (x : SV) (f : Nat) : DetT fun st R => vcFieldAddr P t x f fun s => R s st := by
  unfold vcFieldAddr
  split
  · split
    · refine DetT.must _ ?_
      split <;> first | exact DetT.ret _ | exact DetT.no
    · exact DetT.no
  · exact DetT.no
theorem det_part (t : TypeId) (x : SV) (off : Nat) : DetT fun st R => vcPart P t x off fun s => R s st := by
  unfold vcPart
  refine DetT.must _ ?_
  split
  · split
    · exact (DetT.ret _).must _
    · exact DetT.get id _
  · split
    · exact (DetT.ret _).must _
    · exact DetT.get id _
  · exact DetT.no
theorem det_field (t : TypeId) (x : SV) (f : Nat) : DetT fun st R => vcField P t x f fun s => R s st := by
  unfold vcField
  split
  · split
    · exact det_part _ _ _
    · exact DetT.no
  · exact DetT.no
theorem det_index (t : TypeId) (x i : SV) : DetT fun st R => vcIndex P t x i fun s => R s st := by
  unfold vcIndex
  split
  · split
    · exact (DetT.ret _).and _
    · exact DetT.no
  · exact ((det_part _ _ _).must _).and _
  · exact DetT.no
theorem det_build (t : TypeId) (parts : List (Nat × SV)) : DetT fun st R => vcBuild P t parts fun s => R s st := by
  unfold vcBuild
  split
  · split
    · refine DetT.must _ ?_
      split
      · exact DetT.ret _
      · exact DetT.no
    · exact DetT.no
  · split
    · refine DetT.must _ ?_
      split
      · exact DetT.ret _
      · exact DetT.no
    · exact DetT.no
  · exact DetT.no
theorem det_pure (s : SV) {K : PV → List Ob → Res → Prop} (h : ∀ p, DetT (K p)) : DetT fun st R => vcPure true s st fun p st => K p st R := by
  unfold vcPure
  simp only
  split
  · exact h _
  · exact DetT.no
theorem det_parts (e : TypeId) : ∀ (l : List (Nat × SV)) (n : Nat) {K : List PV → List Ob → Res → Prop}, (∀ ps, DetT (K ps)) → DetT fun st R => vcParts P true e l n st fun ps st => K ps st R
  | [], n, K, h => h _
  | (i, v) :: l, n, K, h => by
    unfold vcParts
    exact (det_pure _ (K := fun p st R => Sy.must (p.one && p.cells.length == szOf P e) (vcParts P true e l (n + 1) st fun ps st => K (p :: ps) st R)) fun p => (det_parts e l (n + 1) (K := fun ps st R => K (p :: ps) st R) fun ps => h _).must _).must _
theorem det_buildSlice (t : TypeId) (len : Nat) (parts : List (Nat × SV)) : DetT fun st R => vcBuildSlice P true t len parts false st R := by
  unfold vcBuildSlice
  split
  · rename_i e hu
    split
    · rename_i i hi
      exact DetT.must _ (det_parts e _ _ (K := fun ps st R => if false = true then R (.vref st.length 0) (st ++ [.vec 0 e i.size false ps]) else R (.lit i.size ps) st) fun ps => DetT.ret _)
    · exact DetT.no
  · exact DetT.no
theorem det_low (h : Nat) (lo : Option SV) {K : Nat → Nat → List Ob → Res → Prop} (hk : ∀ l h, DetT (K l h)) : DetT fun st R => vcLow h lo fun l h => K l h st R := by
  unfold vcLow
  split
  · exact (hk _ _).and _
  · exact DetT.no
  · exact hk _ _
theorem det_slice (t : TypeId) (x : SV) (lo hi : Option SV) (ht : (match P.underlying t with | some .string => true | some (.slice _) => true | _ => false) = true) : DetT fun st R => vcSlice P true t x lo hi st R := by
  have hb : ∀ (n : Nat) {K : Nat → Nat → List Ob → Res → Prop}, (∀ l h, DetT (K l h)) → DetT fun st R => vcBounds n lo hi fun l h => K l h st R := by
    intro n K hk
    unfold vcBounds
    split
    · exact (det_low _ _ hk).and _
    · exact DetT.no
    · exact det_low _ _ hk
  unfold vcSlice
  split
  · exact hb _ (K := fun l h st R => R (vS _) st) fun l h => DetT.ret _
  · exact (hb _ (K := fun l h st R => l < _ ∧ R (.sref _ (_ + l) (h - l)) st) fun l h => (DetT.ret _).and _).must _
  · refine DetT.must _ (det_pure _ (K := fun p st R => match p with | .list sz nl xs => Sy.must (sz == szOf P _) (vcBounds xs.length lo hi fun l h => R (.pure (.list sz nl ((xs.drop l).take (h - l)))) st) | _ => False) fun p => ?_)
    split
    · exact (hb _ (K := fun l h st R => R (.pure (.list _ _ ((_ : List PV).drop l |>.take (h - l)))) st) fun l h => DetT.ret _).must _
    · exact DetT.no
  · rename_i hu
    rw [hu] at ht
    cases ht
  · exact DetT.no

/-- Does this operation go by its operands alone, with one result? -/
def isDet (P : Program) (o : Oper) : Bool :=
  match o.op with
  | .move _ | .assign _ | .pick _ _ _ | .binOp _ _ _ _ _ | .unOp _ _ _ | .extract _ _ | .nilCheck _ | .index _ _ _ | .build _ _ | .buildSlice _ _ _ | .fieldAddr _ _ _ | .field _ _ _ | .makeFunc _ _ _ => true
  | .slice t _ _ _ _ => match P.underlying t with | some .string => true | some (.slice _) => true | _ => false
  | .convert s d _ => match P.underlying s with | some (.int _) => true | some .string => true | _ => false
  | .call c => match c.callee with
    | .builtin .len => match c.argTypes.toList with
      | [t] => match P.underlying t with | some .string => true | _ => false
      | _ => false
    | _ => false
  | _ => false

theorem det_conv (s d : TypeId) (x : SV) (h : (match P.underlying s with | some (.int _) => true | some .string => true | _ => false) = true) : DetT fun st R => vcConv P s d x st fun s => R s st := by
  unfold vcConv
  split
  · split
    · exact DetT.ret _
    · exact DetT.no
  · split
    · exact DetT.ret _
    · exact ((DetT.ret _).and _).must _
    · exact DetT.no
  · split
    · rename_i h1 h2
      rw [h1] at h
      cases h
    · exact DetT.no

theorem det_len (t : TypeId) (x : SV) (h : (match P.underlying t with | some .string => true | _ => false) = true) : DetT fun st R => vcLen P t x st fun s => R s st := by
  unfold vcLen
  split
  · rename_i e hu; rw [hu] at h; cases h
  · split
    · exact DetT.ret _
    · exact DetT.no
  · rename_i hu; rw [hu] at h; cases h
  · rename_i hu; rw [hu] at h; cases h
  · exact DetT.no

theorem det_op {ops : Array Oper} {o : Oper} {ρ : Operand → SV} {q : SV → Prop} (hd : isDet P o = true) : DetT fun st R => vcOp P ops o ρ st (some q) R := by
  unfold isDet at hd
  unfold vcOp
  cases ho : o.op <;> simp only [ho] at hd ⊢ <;> first | cases hd; done | skip
  · exact DetT.ret _
  · exact DetT.ret _
  · split
    · split
      · exact DetT.ret _
      · exact DetT.ret _
    · exact DetT.no
  · exact det_build _ _
  · exact det_buildSlice _ _ _
  · split
    · exact DetT.ret _
    · exact DetT.ret _
    · exact DetT.ret _
    · exact DetT.no
  · exact det_bin _ _ _ _
  · exact det_un _ _
  · exact det_conv _ _ _ hd
  · split
    · split
      · exact DetT.ret _
      · exact (DetT.ret _).must _
    · exact DetT.no
  · exact (det_slice _ _ _ _ hd).must _
  · exact det_fieldAddr _ _ _
  · exact det_field _ _ _
  · exact det_index _ _ _
  · split
    · exact (DetT.ret _).must _
    · exact DetT.no
  · rename_i c
    split at hd
    · rename_i hcal
      simp only [hcal]
      split at hd
      · rename_i t hty
        simp only [hty]
        split
        · rename_i x t' h1 h2
          cases h2
          exact det_len _ _ hd
        · exact DetT.no
      · cases hd
    · cases hd


theorem det_G {ops : Array Oper} {o : Oper} {q : SV → Prop} (hd : isDet P o = true) : Det P ops o 0 (some q) := by
  intro env
  show ∃ pre s0, ∀ st R, vcG P ops o env st (some q) R ↔ _
  have h1 : DetT fun st R => vcG P ops o env st (some q) R := by
    have h0 : DetT fun st R => vcOp P ops o (St.ev ⟨env, st⟩) st (some q) R := by
      have e : (fun st R => vcOp P ops o (St.ev ⟨env, st⟩) st (some q) R) = fun st R => vcOp P ops o (St.ev ⟨env, []⟩) st (some q) R := by
        funext st R
        have : St.ev ⟨env, st⟩ = St.ev ⟨env, []⟩ := by funext x; cases x <;> rfl
        rw [this]
      rw [e]
      exact det_op hd
    unfold vcG
    split
    · exact h0
    · split
      · exact DetT.no
      · split
        · split
          · exact h0
          · exact DetT.ret _
        · exact DetT.ret _
        · exact DetT.no
  exact h1
end

section
variable {P : Program}
theorem det_load (t : TypeId) (cs : List PV) : DetT fun st R => vcLoad P t (.ipt cs) st fun s => R s st := by
  unfold vcLoad
  refine DetT.must _ ?_
  simp only
  split
  · exact (DetT.ret _).must _
  · split
    · exact DetT.ret _
    · exact DetT.no
theorem det_idx (t : TypeId) (sz : Nat) (nl : Bool) (xs : List PV) (i : SV) : DetT fun st R => vcIndexAddr P t (.pure (.list sz nl xs)) i st fun s => R s st := by
  unfold vcIndexAddr
  split
  · rename_i e k j _
    refine DetT.must _ ?_
    by_cases hj : 0 ≤ j ∧ j < xs.length
    · have hlt : j.toNat < xs.length := by omega
      refine ⟨True, .ipt (xs[j.toNat]).cells, fun st R => ⟨fun h => ⟨trivial, h.2 _ (List.getElem?_eq_getElem hlt)⟩, fun h => ⟨hj, fun p hp => ?_⟩⟩⟩
      rw [List.getElem?_eq_getElem hlt] at hp
      cases hp
      exact h.2
    · exact ⟨False, .dead, fun st R => ⟨fun h => absurd h.1 hj, fun h => h.1.elim⟩⟩
  · refine DetT.must _ ?_
    exact ⟨False, .dead, fun st R => ⟨fun h => h.2.elim, fun h => h.1.elim⟩⟩
  · exact DetT.no
theorem det_H {ops : Array Oper} {o : Oper} {q : SV → Prop} : Det P ops o 1 (some q) := by
  intro env
  show ∃ pre s0, ∀ st R, must (stillB o env) (vcG P ops o env st (some q) R) ↔ _
  cases hs : stillB o env with
  | false => exact ⟨False, .dead, fun st R => ⟨fun h => by simp [must] at h, fun h => h.1.elim⟩⟩
  | true =>
    unfold stillB at hs
    split at hs
    · rename_i t x ho
      split at hs
      · rename_i cs hx
        have h0 : DetT fun st R => vcOp P ops o (St.ev ⟨env, st⟩) st (some q) R := by
          have e : (fun st R => vcOp P ops o (St.ev ⟨env, st⟩) st (some q) R) = fun st R => vcLoad P t (.ipt cs) st fun s => R s st := by
            funext st R
            unfold vcOp
            simp only [ho]
            have : St.ev ⟨env, st⟩ (.tmp x) = .ipt cs := hx
            rw [this]
          rw [e]
          exact det_load t cs
        have h1 : DetT fun st R => vcG P ops o env st (some q) R := by
          unfold vcG
          split
          · exact h0
          · split
            · exact DetT.no
            · split
              · split
                · exact h0
                · exact DetT.ret _
              · exact DetT.ret _
              · exact DetT.no
        obtain ⟨pre, s0, h⟩ := h1
        exact ⟨pre, s0, fun st R => by
          rw [must_iff]
          exact ⟨fun g => (h st R).1 g.2, fun g => ⟨rfl, (h st R).2 g⟩⟩⟩
      · cases hs
    · rename_i t x i ho
      split at hs
      · rename_i sz nl xs hx
        have h0 : DetT fun st R => vcOp P ops o (St.ev ⟨env, st⟩) st (some q) R := by
          have e : (fun st R => vcOp P ops o (St.ev ⟨env, st⟩) st (some q) R) = fun st R => vcIndexAddr P t (.pure (.list sz nl xs)) (St.ev ⟨env, []⟩ i) st fun s => R s st := by
            funext st R
            unfold vcOp
            simp only [ho]
            have : St.ev ⟨env, st⟩ (.tmp x) = .pure (.list sz nl xs) := hx
            have h2 : St.ev ⟨env, st⟩ i = St.ev ⟨env, []⟩ i := by cases i <;> rfl
            rw [this, h2]
          rw [e]
          exact det_idx t sz nl xs _
        have h1 : DetT fun st R => vcG P ops o env st (some q) R := by
          unfold vcG
          split
          · exact h0
          · split
            · exact DetT.no
            · split
              · split
                · exact h0
                · exact DetT.ret _
              · exact DetT.ret _
              · exact DetT.no
        obtain ⟨pre, s0, h⟩ := h1
        exact ⟨pre, s0, fun st R => by
          rw [must_iff]
          exact ⟨fun g => (h st R).1 g.2, fun g => ⟨rfl, (h st R).2 g⟩⟩⟩
      · cases hs
    · rename_i c ho
      split at hs
      · rename_i t hc ha
        split at hs
        · rename_i sz nl xs hx
          have hle := of_decide_eq_true hs
          have h0 : DetT fun st R => vcOp P ops o (St.ev ⟨env, st⟩) st (some q) R := by
            have e : (fun st R => vcOp P ops o (St.ev ⟨env, st⟩) st (some q) R) = fun st R => match c.argTypes.toList with | [t'] => vcLen P t' (.pure (.list sz nl xs)) st fun s => R s st | _ => False := by
              funext st R
              unfold vcOp
              simp only [ho, hc, ha]
              have : St.ev ⟨env, st⟩ (.tmp t) = .pure (.list sz nl xs) := hx
              cases hca : c.argTypes.toList with
              | nil => rfl
              | cons t0 r0 => cases r0 with
                | nil =>
                  show (vcLen P t0 (St.ev ⟨env, st⟩ (.tmp t)) st fun s => R s st) = vcLen P t0 (.pure (.list sz nl xs)) st fun s => R s st
                  rw [this]
                | cons _ _ => rfl
            rw [e]
            split
            · rename_i t' _
              unfold vcLen
              split
              · exact ⟨True, vI .i64 xs.length, fun st R => ⟨fun h => ⟨trivial, h hle⟩, fun h _ => h.2⟩⟩
              · exact DetT.no
              · exact DetT.no
              · exact DetT.ret _
              · exact DetT.no
            · exact DetT.no
          have h1 : DetT fun st R => vcG P ops o env st (some q) R := by
            unfold vcG
            split
            · exact h0
            · split
              · exact DetT.no
              · split
                · split
                  · exact h0
                  · exact DetT.ret _
                · exact DetT.ret _
                · exact DetT.no
          obtain ⟨pre, s0, h⟩ := h1
          exact ⟨pre, s0, fun st R => by
            rw [must_iff]
            exact ⟨fun g => (h st R).1 g.2, fun g => ⟨rfl, (h st R).2 g⟩⟩⟩
        · cases hs
      · cases hs
    · cases hs
end

/-! ## Who waits for whom, by reckoning -/
def maskOf (M : List Nat) (o : Oper) : Nat := o.after.toList.foldl (fun s e => if Region.binds .any e then s ||| (1 <<< e.on ||| M.getD e.on 0) else s) 0
def masks : List Oper → List Nat → List Nat
  | [], M => M
  | o :: r, M => masks r (M ++ [maskOf M o])

section
variable {ops : Array Oper}
theorem foldl_mask {M : List Nat} {i : Nat} : ∀ (l : List Edge) (s : Nat), (l.foldl (fun s e => if Region.binds .any e then s ||| (1 <<< e.on ||| M.getD e.on 0) else s) s).testBit i = true →
    s.testBit i = true ∨ ∃ e ∈ l, Region.binds .any e = true ∧ (e.on = i ∨ (M.getD e.on 0).testBit i = true)
  | [], s, h => .inl h
  | e :: l, s, h => by
    rw [List.foldl_cons] at h
    rcases foldl_mask l _ h with h' | ⟨e', he', hb, h''⟩
    · by_cases hb : Region.binds .any e = true
      · rw [if_pos hb] at h'
        simp only [Nat.testBit_or, Bool.or_eq_true, Nat.one_shiftLeft, Nat.testBit_two_pow, decide_eq_true_eq] at h'
        rcases h' with h' | h' | h'
        · exact .inl h'
        · exact .inr ⟨e, by simp, hb, .inl h'⟩
        · exact .inr ⟨e, by simp, hb, .inr h'⟩
      · rw [if_neg hb] at h'
        exact .inl h'
    · exact .inr ⟨e', by simp [he'], hb, h''⟩

theorem masks_reach : ∀ (l : List Oper) (M : List Nat), (∀ j, l[j]? = ops[M.length + j]?) → (∀ j i, (M.getD j 0).testBit i = true → Reach ops j i) → ∀ j i, ((masks l M).getD j 0).testBit i = true → Reach ops j i
  | [], M, _, h, j, i, hj => h j i hj
  | o :: r, M, hl, h, j, i, hj => by
    unfold masks at hj
    refine masks_reach r (M ++ [maskOf M o]) (fun j => ?_) (fun j i hj => ?_) j i hj
    · have := hl (j + 1)
      rw [List.getElem?_cons_succ] at this
      rw [this, List.length_append]
      simp only [List.length_cons, List.length_nil]
      congr 1
      omega
    · rcases Nat.lt_trichotomy j M.length with hlt | rfl | hgt
      · refine h j i ?_
        rw [List.getD_eq_getElem?_getD, List.getElem?_append_left hlt, ← List.getD_eq_getElem?_getD] at hj
        exact hj
      · rw [List.getD_eq_getElem?_getD, List.getElem?_append_right (Nat.le_refl _)] at hj
        simp only [Nat.sub_self, List.getElem?_cons_zero, Option.getD_some] at hj
        have ho : ops[M.length]? = some o := by simpa using (hl 0).symm
        rcases foldl_mask _ _ hj with h' | ⟨e, he, hb, h'⟩
        · simp at h'
        · rcases h' with rfl | h'
          · exact .one ho (by simpa using he) hb
          · exact .more ho (by simpa using he) hb (h _ _ h')
      · rw [List.getD_eq_getElem?_getD, List.getElem?_eq_none (by simp; omega)] at hj
        simp at hj

/-- The mode of an operation. -/
def modeOf (anys : List Nat) (qs : Nat → SV → Prop) (i : Nat) : Option (SV → Prop) := if anys.contains i then none else some (qs i)
theorem modeOf_some {anys : List Nat} {qs : Nat → SV → Prop} {i : Nat} (h : anys.contains i = false) : modeOf anys qs i = some (qs i) := by unfold modeOf; simp only [h]; rfl

/-- Loads of what nobody writes (1), loads of variables (2), operations that leave variables as they are (3). -/
structure Lk where
  lds : List Nat := []
  ldc : List Nat := []
  kps : List Nat := []
def lkOf (l : Lk) (i : Nat) : Nat := if l.lds.contains i then 1 else if l.ldc.contains i then 2 else if l.kps.contains i then 3 else 0
def detB (P : Program) (l : Lk) (i : Nat) (o : Oper) : Bool := match lkOf l i with | 0 => isDet P o | 1 => true | _ => false
def commB (P : Program) (lds : Lk) (anys : List Nat) (i j : Nat) (oi oj : Oper) : Bool := (lkOf lds i == 2 && !anys.contains i && lkOf lds j == 3) || (lkOf lds j == 2 && !anys.contains j && lkOf lds i == 3) || (detB P lds i oi && !anys.contains i) || (detB P lds j oj && !anys.contains j) || (!anys.contains i && !anys.contains j)
/-- The pairs of operations that may change places, each told of. -/
def pairsB (P : Program) (ops : Array Oper) (anys M : List Nat) (f : Nat → Nat → Oper → Oper → Bool) : Bool :=
  (List.range ops.size).all fun i => (List.range ops.size).all fun j => i == j || (M.getD j 0).testBit i || (M.getD i 0).testBit j || (match ops[i]?, ops[j]? with | some a, some b => f i j a b | _, _ => true)
def backB (ops : Array Oper) : Bool := (List.range ops.size).all fun i => match ops[i]? with | some o => o.after.all fun e => !Region.binds .any e || decide (e.on < i) | none => true
def drawB (P : Program) (ops : Array Oper) (lds : Lk) (anys : List Nat) : Bool :=
  backB ops && pairsB P ops anys (masks ops.toList []) fun i j a b => a.apart ops b && commB P lds anys i j a b &&
    (match b.dst with | none => true | some d => (List.range ops.size).all fun k => k == j || (match ops[k]? with | some c => c.dst != some d | none => true))
def drawO (P : Program) (ops : Array Oper) (lds : Lk) (anys : List Nat) : Bool :=
  pairsB P ops anys (masks ops.toList []) fun i j a b => a.apart ops b && commB P lds anys i j a b &&
    (match b.dst with | none => true | some d => (List.range ops.size).all fun k => k == j || (match ops[k]? with | some c => c.dst != some d | none => true))
def deadAt (env : List SV) (d : Option Tmp) : Bool := match d with | none => true | some d => match env.getD d .dead with | .dead => true | _ => false
def deadB (P : Program) (ops : Array Oper) (env : List SV) : Bool :=
  pairsB P ops [] (masks ops.toList []) fun _ _ _ b => deadAt env b.dst

theorem pairs_spec {P : Program} {anys : List Nat} {f : Nat → Nat → Oper → Oper → Bool} (h : pairsB P ops anys (masks ops.toList []) f = true) {i j : Nat} {oi oj : Oper} (hi : ops[i]? = some oi) (hj : ops[j]? = some oj) (hne : i ≠ j)
    (h1 : ¬Reach ops j i) (h2 : ¬Reach ops i j) : f i j oi oj = true := by
  have hr : ∀ j i, ((masks ops.toList []).getD j 0).testBit i = true → Reach ops j i := fun j i => masks_reach ops.toList [] (fun j => by simp) (fun j i h => by simp at h) j i
  have := List.all_eq_true.1 (List.all_eq_true.1 h i (List.mem_range.2 (Array.getElem?_eq_some_iff.1 hi).1)) j (List.mem_range.2 (Array.getElem?_eq_some_iff.1 hj).1)
  simp only [hi, hj, Bool.or_eq_true, beq_iff_eq] at this
  rcases this with ((h' | h') | h') | h'
  · exact absurd h' hne
  · exact absurd (hr _ _ h') h1
  · exact absurd (hr _ _ h') h2
  · exact h'

variable {E : Ent} {P : Program} {K : St → Prop} {lk : Nat → Nat} {md : Nat → Option (SV → Prop)}

/-- The walk in the text's order, each operation in its mode. -/
def vcLex (P : Program) (ops : Array Oper) (lk : Nat → Nat) (md : Nat → Option (SV → Prop)) : Nat → List Oper → St → (St → Prop) → Prop
  | _, [], σ, K => K σ
  | i, o :: l, σ, K => match lk i with
    | 0 => vcGuard P ops o σ (md i) fun σ' => vcLex P ops lk md (i + 1) l σ' K
    | 1 => must (stillB o σ.env) (vcGuard P ops o σ (md i) fun σ' => vcLex P ops lk md (i + 1) l σ' K)
    | 2 => must (cellB o σ.env σ.st) (vcGuard P ops o σ (md i) fun σ' => vcLex P ops lk md (i + 1) l σ' K)
    | _ => vcGuard P ops o σ (md i) fun σ' => KeepL σ.st σ'.st ∧ vcLex P ops lk md (i + 1) l σ' K

theorem lex_any (hback : backB ops = true)
    (hap : ∀ i j oi oj, ops[i]? = some oi → ops[j]? = some oj → j ≠ i → ¬Reach ops j i → ¬Reach ops i j → oi.apart ops oj = true ∧ Comm P ops lk md i j oi oj)
    (hdis : ∀ j oj k ok, ops[j]? = some oj → ops[k]? = some ok → Loose ops j → k ≠ j → ∀ d, oj.dst = some d → ok.dst ≠ some d) : ∀ (l : List Oper) (i : Nat) (env : List SV) (st : List Ob) (listed : Array Bool), i + l.length = ops.size → (∀ j, l[j]? = ops[i + j]?) →
    Closed ops listed → (∀ j, j < i → listed.getD j false = true) → (∀ j, i ≤ j → j < ops.size → listed.getD j true = false) →
    (∀ j oj, ops[j]? = some oj → Loose ops j → listed.getD j true = false → ∀ d, oj.dst = some d → env.getD d .dead = .dead) →
    vcLex P ops lk md i l ⟨env, st⟩ K →
    anyS E P ops lk md (fun listed σ => Region.ready .any ops listed = [] ∧ K σ) l.length listed ⟨env, st⟩
  | [], i, env, st, listed, hi, hl, inv, h1, h2, hdd, h => by
    intro _
    refine ⟨?_, h⟩
    rw [List.eq_nil_iff_forall_not_mem]
    intro j hj
    obtain ⟨hun, o, ho, _⟩ := mem_ready.1 hj
    have := h1 j (by have := (Array.getElem?_eq_some_iff.1 ho).1; simp at hi; omega)
    rw [getD_both hun] at this
    cases this
  | o :: l, i, env, st, listed, hi, hl, inv, h1, h2, hdd, h => by
    have h0 : ops[i]? = some o := by simpa using (hl 0).symm
    have hlt : i < ops.size := (Array.getElem?_eq_some_iff.1 h0).1
    have hr' : i ∈ Region.ready .any ops listed := mem_ready.2 ⟨h2 i (Nat.le_refl _) hlt, o, h0, fun e he hb => by
      have := List.all_eq_true.1 hback i (List.mem_range.2 hlt)
      rw [h0] at this
      have := Array.all_eq_true_iff_forall_mem.1 this e he
      simp only [hb, Bool.not_true, Bool.false_or, decide_eq_true_eq] at this
      exact h1 _ this⟩
    have h : vcH P ops o (lk i) env st (md i) fun s st' => vcLex P ops lk md (i + 1) l (St.put ⟨env, st'⟩ o.dst s) K := by
      unfold vcLex at h
      unfold vcH
      split at h
      · rename_i hlk; rw [hlk]; simp only; rwa [guard_iff] at h
      · rename_i hlk; rw [hlk]; simp only; rw [guard_iff] at h; exact h
      · rename_i hlk; rw [hlk]; simp only; rw [guard_iff] at h; exact h
      · rename_i h0 h1 h2
        rw [guard_iff] at h
        split
        · rename_i e; exact (h0 e).elim
        · rename_i e; exact (h1 e).elim
        · rename_i e; exact (h2 e).elim
        · refine mono_G (fun s st' g => ?_) h
          exact ⟨by have := g.1; rwa [put_st] at this, g.2⟩
    refine any_first h0 (fun listed σ hL => hL.1) (fun j oj hj hji hn1 hn2 => hap i j o oj h0 hj hji hn1 hn2) hdis l.length listed env st inv hdd hr' ?_
    refine mono_H (fun s st' hR => ?_) h
    have e4 : ∀ σ : St, σ = ⟨σ.env, σ.st⟩ := fun σ => rfl
    rw [e4 (St.put ⟨env, st'⟩ o.dst s)] at hR ⊢
    refine lex_any hback hap hdis l (i + 1) _ _ _ (by simp at hi; omega) (fun j => by have := hl (j + 1); simpa [Nat.add_assoc, Nat.add_comm 1 j] using this) (inv.set hr') (fun j hj => ?_) (fun j hj hjs => ?_) ?_ hR
    · by_cases e : j = i
      · subst e
        have : j < listed.size := by rw [inv.size]; exact hlt
        simp [this]
      · exact getD_set_true (h1 j (by omega))
    · rw [getD_set_ne true (by omega)]
      exact h2 j (by omega) hjs
    · intro j oj hj hjl hun d hd
      have hij : i ≠ j := by
        rintro rfl
        have hlt : i < listed.size := by rw [inv.size]; exact (Array.getElem?_eq_some_iff.1 h0).1
        simp [hlt] at hun
      rw [getD_set_ne true hij] at hun
      rw [put_env_ne (fun e => hdis j oj i o hj h0 hjl hij d hd e)]
      exact hdd j oj hj hjl hun d hd
end

/-- The walk in an order that is told, each operation in its mode. -/
def vcOrd (P : Program) (ops : Array Oper) (lk : Nat → Nat) (md : Nat → Option (SV → Prop)) : List Nat → St → (St → Prop) → Prop
  | [], σ, K => K σ
  | i :: l, σ, K => match ops[i]? with
    | none => False
    | some o => match lk i with
      | 0 => vcGuard P ops o σ (md i) fun σ' => vcOrd P ops lk md l σ' K
      | 1 => must (stillB o σ.env) (vcGuard P ops o σ (md i) fun σ' => vcOrd P ops lk md l σ' K)
      | 2 => must (cellB o σ.env σ.st) (vcGuard P ops o σ (md i) fun σ' => vcOrd P ops lk md l σ' K)
      | _ => vcGuard P ops o σ (md i) fun σ' => KeepL σ.st σ'.st ∧ vcOrd P ops lk md l σ' K
/-- Does each operation of an order rest on those ahead alone? -/
def ordB (ops : Array Oper) : List Nat → List Nat → Bool
  | [], dn => (List.range ops.size).all fun i => dn.contains i
  | i :: l, dn => decide (i < ops.size) && !dn.contains i && (match ops[i]? with | some o => o.after.all fun e => !Region.binds .any e || dn.contains e.on | none => false) && ordB ops l (i :: dn)

section
variable {ops : Array Oper} {E : Ent} {P : Program} {K : St → Prop} {lk : Nat → Nat} {md : Nat → Option (SV → Prop)}
theorem ord_any (hap : ∀ i j oi oj, ops[i]? = some oi → ops[j]? = some oj → j ≠ i → ¬Reach ops j i → ¬Reach ops i j → oi.apart ops oj = true ∧ Comm P ops lk md i j oi oj)
    (hdis : ∀ j oj k ok, ops[j]? = some oj → ops[k]? = some ok → Loose ops j → k ≠ j → ∀ d, oj.dst = some d → ok.dst ≠ some d) : ∀ (l dn : List Nat) (env : List SV) (st : List Ob) (listed : Array Bool), ordB ops l dn = true →
    Closed ops listed → (∀ j, j < ops.size → (listed.getD j false = true ↔ j ∈ dn)) → (∀ j ∈ dn, j < ops.size) →
    (∀ j oj, ops[j]? = some oj → Loose ops j → listed.getD j true = false → ∀ d, oj.dst = some d → env.getD d .dead = .dead) →
    vcOrd P ops lk md l ⟨env, st⟩ K →
    anyS E P ops lk md (fun listed σ => Region.ready .any ops listed = [] ∧ K σ) l.length listed ⟨env, st⟩
  | [], dn, env, st, listed, ho, inv, hdn, hdl, hdd, h => by
    intro _
    refine ⟨?_, h⟩
    rw [List.eq_nil_iff_forall_not_mem]
    intro j hj
    obtain ⟨hun, o, ho', _⟩ := mem_ready.1 hj
    have hlt := (Array.getElem?_eq_some_iff.1 ho').1
    have := List.all_eq_true.1 ho j (List.mem_range.2 hlt)
    have := (hdn j hlt).2 (by simpa using this)
    rw [getD_both hun] at this
    cases this
  | i :: l, dn, env, st, listed, ho, inv, hdn, hdl, hdd, h => by
    unfold ordB at ho
    simp only [Bool.and_eq_true, decide_eq_true_eq, Bool.not_eq_true'] at ho
    obtain ⟨⟨⟨hlt, hnd⟩, hdep⟩, ho⟩ := ho
    obtain ⟨o, h0⟩ : ∃ o, ops[i]? = some o := ⟨_, Array.getElem?_eq_getElem hlt⟩
    rw [h0] at hdep
    have hil : i < listed.size := by rw [inv.size]; exact hlt
    have hun : listed.getD i true = false := by
      have : ¬ listed.getD i false = true := fun hh => by
        have := (hdn i hlt).1 hh
        simp at hnd
        exact hnd this
      simp only [Bool.not_eq_true] at this
      simp [hil] at this ⊢
      exact this
    have hr' : i ∈ Region.ready .any ops listed := mem_ready.2 ⟨hun, o, h0, fun e he hb => by
      have := Array.all_eq_true_iff_forall_mem.1 hdep e he
      simp only [hb, Bool.not_true, Bool.false_or] at this
      have hm : e.on ∈ dn := by simpa using this
      exact (hdn e.on (hdl e.on hm)).2 hm⟩
    unfold vcOrd at h
    rw [h0] at h
    simp only at h
    have h : vcH P ops o (lk i) env st (md i) fun s st' => vcOrd P ops lk md l (St.put ⟨env, st'⟩ o.dst s) K := by
      unfold vcH
      split at h
      · rename_i hlk; rw [hlk]; simp only; rwa [guard_iff] at h
      · rename_i hlk; rw [hlk]; simp only; rw [guard_iff] at h; exact h
      · rename_i hlk; rw [hlk]; simp only; rw [guard_iff] at h; exact h
      · rename_i h0 h1 h2
        rw [guard_iff] at h
        split
        · rename_i e; exact (h0 e).elim
        · rename_i e; exact (h1 e).elim
        · rename_i e; exact (h2 e).elim
        · refine mono_G (fun s st' g => ?_) h
          exact ⟨by have := g.1; rwa [put_st] at this, g.2⟩
    refine any_first h0 (fun listed σ hL => hL.1) (fun j oj hj hji hn1 hn2 => hap i j o oj h0 hj hji hn1 hn2) hdis l.length listed env st inv hdd hr' ?_
    refine mono_H (fun s st' hR => ?_) h
    have e4 : ∀ σ : St, σ = ⟨σ.env, σ.st⟩ := fun σ => rfl
    rw [e4 (St.put ⟨env, st'⟩ o.dst s)] at hR ⊢
    refine ord_any hap hdis l (i :: dn) _ _ _ ho (inv.set hr') (fun j hj => ?_) (fun j hj => (by rcases List.mem_cons.1 hj with rfl | hj; exact hlt; exact hdl j hj)) ?_ hR
    · by_cases e : j = i
      · subst e
        simp [hil]
      · rw [getD_set_ne false (fun h => e h.symm), hdn j hj]
        simp [e]
    · intro j oj hj hjl hun d hd
      have hij : i ≠ j := by
        rintro rfl
        simp [hil] at hun
      rw [getD_set_ne true hij] at hun
      rw [put_env_ne (fun e => hdis j oj i o hj h0 hjl hij d hd e)]
      exact hdd j oj hj hjl hun d hd
end

/-- **A region that draws its order**: by the walk in the text's order. The operations in 'anys' may change objects; what each other call gives is told ahead. -/
theorem hand_drawO {P : Program} {k : Kx} {id : Nat} {ops : Array Oper} {σ : St} {Q : Exit → St → Prop} (ord : List Nat) (lds : Lk) (anys : List Nat) (qs : Nat → SV → Prop) (hP : P.follows .mixedOrders = true) (hL : (ord.length == ops.size) = true) (hO : ordB ops ord [] = true) (hB : drawO P ops lds anys = true) (hd : deadB P ops σ.env = true)
    (h : vcOrd P ops (lkOf lds) (modeOf anys qs) ord σ (Q .normal)) : Hand P k (.region id ops true) σ Q := by
  refine ⟨fun E a w hk hr => ?_⟩
  have hpairs := hB
  unfold drawO at hpairs
  have closed0 : Closed ops (Array.replicate ops.size false) := by
    refine ⟨by simp, fun j oj _ hl => ?_⟩
    rcases Nat.lt_or_ge j ops.size with h | h
    · simp [h] at hl
    · simp [h] at hl
  have unl : ∀ j, j < ops.size → (Array.replicate ops.size false).getD j true = false := fun j hj => by simp [hj]
  have hdet : ∀ i (o : Oper) {q : SV → Prop}, detB P lds i o = true → Det P ops o (lkOf lds i) (some q) := fun i o q h => by
    unfold detB at h
    split at h
    · rename_i e; rw [e]; exact det_G h
    · rename_i e; rw [e]; exact det_H
    · cases h
  have hap : ∀ i j oi oj, ops[i]? = some oi → ops[j]? = some oj → j ≠ i → ¬Reach ops j i → ¬Reach ops i j → oi.apart ops oj = true ∧ Comm P ops (lkOf lds) (modeOf anys qs) i j oi oj := by
    intro i j oi oj hi hj hji h1 h2
    have := pairs_spec hpairs hi hj (Ne.symm hji) h1 h2
    simp only [Bool.and_eq_true] at this
    obtain ⟨⟨h3, h4⟩, _⟩ := this
    refine ⟨h3, ?_⟩
    unfold commB at h4
    simp only [Bool.or_eq_true, Bool.and_eq_true, Bool.not_eq_true'] at h4
    rcases h4 with (((⟨⟨h5, h6⟩, h7⟩ | ⟨⟨h5, h6⟩, h7⟩) | ⟨h5, h6⟩) | ⟨h5, h6⟩) | ⟨h5, h6⟩
    · exact .inr (.inr (.inr (.inl ⟨by simpa using h5, by rw [modeOf_some h6]; rfl, by simpa using h7⟩)))
    · exact .inr (.inr (.inr (.inr ⟨by simpa using h5, by rw [modeOf_some h6]; rfl, by simpa using h7⟩)))
    · exact .inl (by rw [modeOf_some h6]; exact hdet _ _ h5)
    · exact .inr (.inl (by rw [modeOf_some h6]; exact hdet _ _ h5))
    · exact .inr (.inr (.inl ⟨by rw [modeOf_some h5]; rfl, by rw [modeOf_some h6]; rfl⟩))
  have hdis : ∀ j oj k ok, ops[j]? = some oj → ops[k]? = some ok → Loose ops j → k ≠ j → ∀ d, oj.dst = some d → ok.dst ≠ some d := by
    intro j oj k ok hj hk ⟨i, his, hij, h1, h2⟩ hkj d hd' hd''
    have := pairs_spec hpairs (Array.getElem?_eq_getElem his) hj hij h2 h1
    simp only [hd', Bool.and_eq_true] at this
    have := List.all_eq_true.1 this.2 k (List.mem_range.2 (Array.getElem?_eq_some_iff.1 hk).1)
    simp [hk, hkj, hd''] at this
  have hdd : ∀ j oj, ops[j]? = some oj → Loose ops j → (Array.replicate ops.size false).getD j true = false → ∀ d, oj.dst = some d → σ.env.getD d .dead = .dead := by
    intro j oj hj ⟨i, his, hij, h1, h2⟩ _ d hd'
    have := pairs_spec hd (Array.getElem?_eq_getElem his) hj hij h2 h1
    simp only [deadAt, hd'] at this
    split at this
    · assumption
    · cases this
  have H := ord_any (E := E) hap hdis ord [] σ.env σ.st _ hO closed0 (fun j hj => by simp [hj]) (by simp) hdd h
  refine wpIn_region_any hP ?_
  have hr' : Rel E σ a { w with drawn := w.drawn + 1 } := by
    obtain ⟨χ, G, hf⟩ := hr
    exact ⟨χ, G, Fits.ext (χ := χ) (w' := { w with drawn := w.drawn + 1 }) hf rfl rfl rfl (Nat.le_refl _) fun b _ => ⟨rfl, rfl⟩⟩
  have := any_sound (Q := fun e a' w' => ∃ σ', Q e σ' ∧ Rel E σ' a' w') (fun listed σ' a' w' hL hr'' => ⟨hL.1, _, hL.2, hr''⟩) _ _ _ _ _ H hr'
  rw [beq_iff_eq.1 hL] at this
  simpa using this
theorem hand_drawL {P : Program} {k : Kx} {id : Nat} {ops : Array Oper} {σ : St} {Q : Exit → St → Prop} (lds : Lk) (anys : List Nat) (qs : Nat → SV → Prop) (hP : P.follows .mixedOrders = true) (hB : drawB P ops lds anys = true) (hd : deadB P ops σ.env = true)
    (h : vcLex P ops (lkOf lds) (modeOf anys qs) 0 ops.toList σ (Q .normal)) : Hand P k (.region id ops true) σ Q := by
  refine ⟨fun E a w hk hr => ?_⟩
  simp only [drawB, Bool.and_eq_true] at hB
  obtain ⟨hback, hpairs⟩ := hB
  have closed0 : Closed ops (Array.replicate ops.size false) := by
    refine ⟨by simp, fun j oj _ hl => ?_⟩
    rcases Nat.lt_or_ge j ops.size with h | h
    · simp [h] at hl
    · simp [h] at hl
  have unl : ∀ j, j < ops.size → (Array.replicate ops.size false).getD j true = false := fun j hj => by simp [hj]
  have hdet : ∀ i (o : Oper) {q : SV → Prop}, detB P lds i o = true → Det P ops o (lkOf lds i) (some q) := fun i o q h => by
    unfold detB at h
    split at h
    · rename_i e; rw [e]; exact det_G h
    · rename_i e; rw [e]; exact det_H
    · cases h
  have hap : ∀ i j oi oj, ops[i]? = some oi → ops[j]? = some oj → j ≠ i → ¬Reach ops j i → ¬Reach ops i j → oi.apart ops oj = true ∧ Comm P ops (lkOf lds) (modeOf anys qs) i j oi oj := by
    intro i j oi oj hi hj hji h1 h2
    have := pairs_spec hpairs hi hj (Ne.symm hji) h1 h2
    simp only [Bool.and_eq_true] at this
    obtain ⟨⟨h3, h4⟩, _⟩ := this
    refine ⟨h3, ?_⟩
    unfold commB at h4
    simp only [Bool.or_eq_true, Bool.and_eq_true, Bool.not_eq_true'] at h4
    rcases h4 with (((⟨⟨h5, h6⟩, h7⟩ | ⟨⟨h5, h6⟩, h7⟩) | ⟨h5, h6⟩) | ⟨h5, h6⟩) | ⟨h5, h6⟩
    · exact .inr (.inr (.inr (.inl ⟨by simpa using h5, by rw [modeOf_some h6]; rfl, by simpa using h7⟩)))
    · exact .inr (.inr (.inr (.inr ⟨by simpa using h5, by rw [modeOf_some h6]; rfl, by simpa using h7⟩)))
    · exact .inl (by rw [modeOf_some h6]; exact hdet _ _ h5)
    · exact .inr (.inl (by rw [modeOf_some h6]; exact hdet _ _ h5))
    · exact .inr (.inr (.inl ⟨by rw [modeOf_some h5]; rfl, by rw [modeOf_some h6]; rfl⟩))
  have hdis : ∀ j oj k ok, ops[j]? = some oj → ops[k]? = some ok → Loose ops j → k ≠ j → ∀ d, oj.dst = some d → ok.dst ≠ some d := by
    intro j oj k ok hj hk ⟨i, his, hij, h1, h2⟩ hkj d hd' hd''
    have := pairs_spec hpairs (Array.getElem?_eq_getElem his) hj hij h2 h1
    simp only [hd', Bool.and_eq_true] at this
    have := List.all_eq_true.1 this.2 k (List.mem_range.2 (Array.getElem?_eq_some_iff.1 hk).1)
    simp [hk, hkj, hd''] at this
  have hdd : ∀ j oj, ops[j]? = some oj → Loose ops j → (Array.replicate ops.size false).getD j true = false → ∀ d, oj.dst = some d → σ.env.getD d .dead = .dead := by
    intro j oj hj ⟨i, his, hij, h1, h2⟩ _ d hd'
    have := pairs_spec hd (Array.getElem?_eq_getElem his) hj hij h2 h1
    simp only [deadAt, hd'] at this
    split at this
    · assumption
    · cases this
  have H := lex_any (E := E) hback hap hdis ops.toList 0 σ.env σ.st _ (by simp) (fun j => by simp) closed0 (fun j hj => by omega) (fun j _ hj => unl j hj) hdd h
  refine wpIn_region_any hP ?_
  have hr' : Rel E σ a { w with drawn := w.drawn + 1 } := by
    obtain ⟨χ, G, hf⟩ := hr
    exact ⟨χ, G, Fits.ext (χ := χ) (w' := { w with drawn := w.drawn + 1 }) hf rfl rfl rfl (Nat.le_refl _) fun b _ => ⟨rfl, rfl⟩⟩
  have := any_sound (Q := fun e a' w' => ∃ σ', Q e σ' ∧ Rel E σ' a' w') (fun listed σ' a' w' hL hr'' => ⟨hL.1, _, hL.2, hr''⟩) _ _ _ _ _ H hr'
  simpa using this
theorem hand_draw {P : Program} {k : Kx} {id : Nat} {ops : Array Oper} {σ : St} {Q : Exit → St → Prop} (anys : List Nat) (qs : Nat → SV → Prop) (hP : P.follows .mixedOrders = true) (hB : drawB P ops {} anys = true) (hd : deadB P ops σ.env = true)
    (h : vcLex P ops (lkOf {}) (modeOf anys qs) 0 ops.toList σ (Q .normal)) : Hand P k (.region id ops true) σ Q := hand_drawL {} anys qs hP hB hd h
end Go.Sy
/- What is read of an argument, as a symbolic value: one law for each form of a type. -/
set_option linter.all false
set_option maxHeartbeats 4000000
namespace Go.Sy
open Go.RowKit
open Go.Proofs.YtafngalmkblipaaGreatDoor.Rows (uptoBulk uptoBulkAll uptoSmall)

section
variable {H : Type} {enc : TypeId × Value → H} {P : Program}
open Go.ChangeShapes Go.WideShapes
/-- The row's last step where the call made blocks of its own. -/
theorem post_of_below {f : Func} {s : ChangeSpec} {apart fresh handsOn again : Bool} {W W' : World} {args : Array Value} {v : Value} {ds gs : List (DataW H)} {before pa pv : List MemPlace}
    (hW : DataW.Whole enc P f.params.toList s.vars apart W args.toList ds gs before)
    (hres : ∀ (b : Nat) (sp : Nat → Bool) (hd : Bool), DataW.TrodAll enc P W' b sp hd f.resultTypes.toList (v.resultList f.resultTypes.size) (s.fn H (ds ++ gs)).results [])
    (hargs : ∀ sp : Nat → Bool, (∀ p ∈ before, sp p.block = true) → DataW.TrodAll enc P W' 0 sp true f.params.toList args.toList (s.fn H (ds ++ gs)).args pa)
    (hvars : ∀ sp : Nat → Bool, (∀ p ∈ before, sp p.block = true) → DataW.TrodVars enc P W' sp s.vars (s.fn H (ds ++ gs)).vars pv)
    (hps : before = pa ++ pv) (hb : Below W.heap.size W W')
    (hok : ∀ (j : Nat) (t : TypeId) (r : Value), f.resultTypes[j]? = some t → (v.resultList f.resultTypes.size)[j]? = some r → Value.okWide P W' .any 0 t r) :
    s.post enc P f apart fresh handsOn again W args v W' := by
  have hlt : ∀ p ∈ before, p.block < W.heap.size := fun p hp => hW.lt p hp
  have hold : ∀ p ∈ before, (fun b => decide (b < W.heap.size)) p.block = true := fun p hp => by simpa using hlt p hp
  refine ⟨ds, gs, before, [], pa, pv, hW, hres _ _ _, hargs _ hold, hvars _ hold, World.keptBut_mono (fun p hp => ⟨hp, ?_⟩) (hb.frame (· ∈ before)), fun _ => ?_⟩
  · rw [hps, List.mem_append] at hp
    exact Or.inr hp
  · obtain ⟨_, _, _, _, _, hz, hn⟩ := hW
    refine ⟨hok, _, _, ([] ++ pa) ++ pv, ⟨[] ++ pa, pv, trodAll_append (hargs _ (fun _ _ => rfl)) (hres _ _ _), hvars _ (fun _ _ => rfl), rfl, ?_, ?_⟩, ?_⟩
    · intro b off hp
      have hin : MemPlace.cell b off ∈ before := by rw [hps]; simpa using hp
      rw [hb.frozen (hlt _ hin)]
      exact hz b off hin
    · intro ha
      have := hn ha
      rw [hps] at this
      simpa using this
    · intro p hp _
      rw [hps]
      simpa using hp
end

/-- Nobody writes in what was there. -/
abbrev allImm : Nat → Color := fun _ => .imm

/-- What is read at a type is one of these. -/
def Reads {H : Type} (enc : TypeId × Value → H) (P : Program) (t : TypeId) {α : Type} (pv : α → PV) (wt : α → Nat) (inv : α → Prop) : Prop :=
  ∀ (w : World) (fuel : Nat) (cs : List Value) (d : DataW H) (ps : List MemPlace), DataW.trod enc P w 0 (fun _ => true) true fuel t cs = some (d, ps) →
    ∃ x, inv x ∧ wt x ≤ uptoBulk d ∧ RL allImm w (pv x).cells cs

section
variable {H : Type} {enc : TypeId × Value → H} {P : Program} {t : TypeId}

theorem reads_int {k : IntKind} (ht : P.underlying t = some (.int k)) : Reads enc P t (fun n : Int => .val (.int k n)) (fun _ => 1) (fun n => k.min ≤ n ∧ n ≤ k.max) := by
  intro w fuel cs d ps h
  obtain ⟨n, rfl, e, hw⟩ := DataW.trod_int ht h
  simp only [Prod.mk.injEq] at e
  obtain ⟨rfl, rfl⟩ := e
  simp [Lit.wf] at hw
  exact ⟨n, hw, by simp [uptoBulk], _, [], rfl, rfl, rfl, rfl⟩

theorem reads_bool (ht : P.underlying t = some .bool) : Reads enc P t (fun b : Bool => .val (.bool b)) (fun _ => 1) (fun _ => True) := by
  intro w fuel cs d ps h
  obtain ⟨b, rfl, e⟩ := DataW.trod_bool ht h
  simp only [Prod.mk.injEq] at e
  obtain ⟨rfl, rfl⟩ := e
  exact ⟨b, trivial, by simp [uptoBulk], _, [], rfl, rfl, rfl, rfl⟩

theorem reads_string (ht : P.underlying t = some .string) : Reads enc P t (fun s : ByteArray => .val (.string s)) (fun s => s.size + 1) (fun s => s.size ≤ maxLen) := by
  intro w fuel cs d ps h
  obtain ⟨s, rfl, e, hs⟩ := DataW.trod_string ht h
  simp only [Prod.mk.injEq] at e
  obtain ⟨rfl, rfl⟩ := e
  refine ⟨s, hs, ?_, _, [], rfl, rfl, rfl, rfl⟩
  have e : s.data.toList.length = s.size := by rw [Array.length_toList]; rfl
  simp only [uptoBulk]
  omega

theorem bulk_get {l : List (DataW H)} : ∀ {i : Nat} {d : DataW H}, l[i]? = some d → uptoBulk d ≤ uptoBulkAll l := by
  induction l with
  | nil => intro i d h; simp at h
  | cons x r ih =>
    intro i d h
    simp only [uptoBulkAll]
    cases i with
    | zero => simp at h; subst h; omega
    | succ j => have := ih (i := j) (by simpa using h); omega

theorem RL_one {χ : Nat → Color} {w : World} : ∀ {cs : List PV} {us : List Value}, RL χ w cs us → ∀ u ∈ us, u.oneCell' = true
  | [], us, h, u, hu => by have : us = [] := h; subst this; cases hu
  | c :: cs, us, h, u, hu => by
    obtain ⟨u', r, rfl, h1, h2, h3⟩ := h
    rcases List.mem_cons.1 hu with rfl | hu
    · exact h1
    · exact RL_one h3 u hu

theorem RL_vals_eq {χ : Nat → Color} {w : World} : ∀ {vs : List Value} {us : List Value}, RL χ w (vs.map .val) us → us = vs
  | [], us, h => h
  | v :: vs, us, h => by
    obtain ⟨u, r, rfl, h1, h2, h3⟩ := h
    have h2 : u = v := h2
    rw [h2, RL_vals_eq h3]

/-- One value out of its cells. -/
theorem of_cells {χ : Nat → Color} {w : World} {p : PV} {cs : List Value} (h : RL χ w p.cells cs) : ∃ u, u.cells.toList = cs ∧ RP χ w p u := by
  have one : ∀ (p : PV), p.cells = [p] → RL χ w p.cells cs → ∃ u, u.cells.toList = cs ∧ RP χ w p u := fun p e h => by
    rw [e] at h
    obtain ⟨u, r, rfl, h1, h2, h3⟩ := h
    have h3 : r = [] := h3
    subst h3
    refine ⟨u, ?_, h2⟩
    cases u <;> first | rfl | simp [Value.oneCell'] at h1
  cases p with
  | val v =>
    cases v with
    | agg a =>
      have := RL_vals_eq (vs := a.toList) h
      exact ⟨.agg a, this.symm, rfl⟩
    | _ => exact one _ rfl h
  | agg ps => exact ⟨.agg cs.toArray, by simp [Value.cells], cs, rfl, h⟩
  | list sz nl xs => exact one _ rfl h

def sumWt {α : Type} (wt : α → Nat) (xs : List α) : Nat := (xs.map wt).sum

/-- The elements of a slice, one by one. -/
theorem elems_ok {e : TypeId} {α : Type} {pv : α → PV} {wt : α → Nat} {inv : α → Prop} (he : Reads enc P e pv wt inv) {w : World} {a : Addr} {fuel : Nat} :
    ∀ (k : Nat) (rs : List (DataW H × List MemPlace)),
      (∀ i, i < rs.length → (w.cells? 0 (a.add ((k + i) * P.cellsOf e)) (P.cellsOf e)).bind (DataW.trod enc P w 0 (fun _ => true) true fuel e) = rs[i]?) →
      ∃ (xs : List α) (us : List Value), xs.length = rs.length ∧ (∀ x ∈ xs, inv x) ∧ sumWt wt xs ≤ uptoBulkAll (rs.map (·.1)) ∧ RF allImm w (P.cellsOf e) (xs.map pv) us ∧ (∀ j u, us[j]? = some u → w.cell? (a.add (k * P.cellsOf e + j)) = some u)
  | k, [], h => ⟨[], [], rfl, by simp, by simp [sumWt], rfl, by simp⟩
  | k, r :: rs', h => by
    have h0 := h 0 (by simp)
    simp only [Nat.add_zero, List.getElem?_cons_zero, Option.bind_eq_some_iff] at h0
    obtain ⟨cs, hcs, hr⟩ := h0
    obtain ⟨d, ps⟩ := r
    obtain ⟨xs, us, hl, hi, hwt, hrf, hc⟩ := elems_ok he (k + 1) rs' fun i hi => by
      have := h (i + 1) (by simp; omega)
      rw [List.getElem?_cons_succ] at this
      rw [← this, show k + 1 + i = k + (i + 1) by omega]
    obtain ⟨x, hx, hwx, hcx⟩ := he w fuel cs d ps hr
    obtain ⟨u, hu, hp⟩ := of_cells hcx
    obtain ⟨_, hlen, hget⟩ := World.cells?_some hcs
    refine ⟨x :: xs, cs ++ us, by simp [hl], ?_, ?_, ?_, ?_⟩
    · intro y hy
      rcases List.mem_cons.1 hy with rfl | hy
      · exact hx
      · exact hi y hy
    · simp only [sumWt, List.map_cons, List.sum_cons, uptoBulkAll] at hwt ⊢
      omega
    · refine ⟨u, us, by rw [hu], by rw [← hlen, ← hu]; simp, ?_, hp, hrf⟩
      rw [hu]
      exact RL_one hcx
    · intro j v hv
      rw [List.getElem?_append] at hv
      split at hv
      · rename_i hj
        have := hget j (by omega)
        rw [add_add] at this
        rw [this]
        exact hv
      · rename_i hj
        have := hc (j - cs.length) v hv
        rw [show k * P.cellsOf e + j = (k + 1) * P.cellsOf e + (j - cs.length) by rw [Nat.add_mul]; omega]
        exact this

theorem reads_slice {e : TypeId} {sz : Nat} {α : Type} {pv : α → PV} {wt : α → Nat} {inv : α → Prop} (ht : P.underlying t = some (.slice e)) (hsz : P.cellsOf e = sz) (he : Reads enc P e pv wt inv) :
    Reads enc P t (fun x : Bool × List α => .list sz x.1 (x.2.map pv)) (fun x => 1 + sumWt wt x.2) (fun x => (x.1 = true → x.2 = []) ∧ x.2.length ≤ maxLen ∧ ∀ y ∈ x.2, inv y) := by
  intro w fuel cs d ps h
  rcases DataW.trod_slice ht h with ⟨rfl, e⟩ | ⟨a, len, cap, elems, rest, n, _, rfl, e, h1, h2, h3, h4, h5, _⟩
  · simp only [Prod.mk.injEq] at e
    obtain ⟨rfl, rfl⟩ := e
    exact ⟨(true, []), ⟨fun _ => rfl, by simp, by simp⟩, by simp [uptoBulk, sumWt], _, [], rfl, rfl, ⟨none, 0, [], rfl, Nat.le_refl _, by simp [maxLen], fun _ => rfl, by simp, rfl, fun k u hu => by simp at hu⟩, rfl⟩
  · simp only [Prod.mk.injEq] at e
    obtain ⟨rfl, rfl⟩ := e
    obtain ⟨xs, us, hl, hi, hwt, hrf, hcell⟩ := elems_ok he 0 elems fun i hi => by
      have := h5 i (by omega)
      rwa [Nat.zero_add]
    refine ⟨(false, xs), ⟨fun e => (by cases e), by simp only; omega, hi⟩, ?_, _, [], rfl, rfl, ⟨some a, cap, us, by simp only [List.length_map]; rw [hl, h4], by simp only [List.length_map]; omega, h3, fun e => (by cases e), by simp, hsz ▸ hrf, fun k u hu => ⟨a, rfl, rfl, ?_⟩⟩, rfl⟩
    · simp only [uptoBulk]
      omega
    · have := hcell k u hu
      simpa using this

/-- The fields of a struct, one after the other. -/
def ReadsF {H : Type} (enc : TypeId × Value → H) (P : Program) (l : List TypeId) {α : Type} (pv : α → List PV) (wt : α → Nat) (inv : α → Prop) : Prop :=
  ∀ (w : World) (fuel : Nat) (fs : List (Nat × TypeId)) (off : Nat) (cs : List Value) (rs : List (DataW H × List MemPlace)), fs.map (·.2) = l →
    (∀ i f, fs[i]? = some f → f.1 = off + ((l.take i).map P.cellsOf).sum) → cs.length = off + (l.map P.cellsOf).sum →
    (fs.mapM fun f => DataW.trod enc P w 0 (fun _ => true) true fuel f.2 ((cs.drop f.1).take (P.cellsOf f.2))) = some rs →
    ∃ x, inv x ∧ wt x ≤ uptoBulkAll (rs.map (·.1)) ∧ RL allImm w (pv x) (cs.drop off)

theorem readsF_nil : ReadsF enc P [] (fun _ : Unit => []) (fun _ => 0) (fun _ => True) := by
  intro w fuel fs off cs rs hfs _ hcs h
  refine ⟨(), trivial, Nat.zero_le _, ?_⟩
  have : cs.drop off = [] := List.drop_eq_nil_of_le (by simp at hcs; omega)
  rw [this]
  rfl

theorem readsF_cons {l : List TypeId} {α β : Type} {pv : α → PV} {wt : α → Nat} {inv : α → Prop} {pvs : β → List PV} {wts : β → Nat} {invs : β → Prop}
    (h0 : Reads enc P t pv wt inv) (h1 : ReadsF enc P l pvs wts invs) :
    ReadsF enc P (t :: l) (fun x : α × β => (pv x.1).cells ++ pvs x.2) (fun x => wt x.1 + wts x.2) (fun x => inv x.1 ∧ invs x.2) := by
  intro w fuel fs off cs rs hfs hoff hcs h
  cases fs with
  | nil => simp at hfs
  | cons f fs =>
    simp only [List.map_cons, List.cons.injEq] at hfs
    obtain ⟨hf, hfs⟩ := hfs
    rw [List.mapM_cons] at h
    simp only [Option.bind_eq_bind, Option.bind_eq_some_iff] at h
    obtain ⟨r, hr, rs', hrs, hh⟩ := h
    have hh : rs = r :: rs' := by simpa using hh.symm
    subst hh
    obtain ⟨d, ps⟩ := r
    have hf1 : f.1 = off := by simpa using hoff 0 f rfl
    rw [hf, hf1] at hr
    obtain ⟨x, hx, hwx, hcx⟩ := h0 w fuel _ d ps hr
    obtain ⟨y, hy, hwy, hcy⟩ := h1 w fuel fs (off + P.cellsOf t) cs rs' hfs (fun i g hg => by
      have := hoff (i + 1) g (by simpa using hg)
      simp only [List.take_succ_cons, List.map_cons, List.sum_cons] at this
      omega) (by simp only [List.map_cons, List.sum_cons] at hcs; omega) hrs
    refine ⟨(x, y), ⟨hx, hy⟩, ?_, ?_⟩
    · simp only [List.map_cons, uptoBulkAll]
      omega
    · have : cs.drop off = (cs.drop off).take (P.cellsOf t) ++ cs.drop (off + P.cellsOf t) := by rw [← List.drop_drop, List.take_append_drop]
      rw [this]
      exact RL_append hcx hcy

theorem mapM_congr' {α β γ : Type} {f : α → Option γ} {g : β → Option γ} (m : α → β) (h : ∀ x, f x = g (m x)) : ∀ l : List α, l.mapM f = (l.map m).mapM g
  | [] => rfl
  | x :: l => by rw [List.map_cons, List.mapM_cons, List.mapM_cons, h x, mapM_congr' m h l]

theorem trod_struct_m {fs : Array Field} {w : World} {fuel : Nat} {cs : List Value} {x : DataW H × List MemPlace} (ht : P.underlying t = some (.struct fs)) (h : DataW.trod enc P w 0 (fun _ => true) true fuel t cs = some x) :
    ∃ (n : Nat) (rs : List (DataW H × List MemPlace)), cs.length = P.cellsOf t ∧ (fs.toList.mapM fun f => DataW.trod enc P w 0 (fun _ => true) true n f.type ((cs.drop f.offset).take (P.cellsOf f.type))) = some rs ∧ x = (.agg (rs.map (·.1)), rs.flatMap (·.2)) := by
  cases fuel with
  | zero => simp [DataW.trod] at h
  | succ n =>
    unfold DataW.trod at h
    rw [ht] at h
    split at h <;> simp_all
    obtain ⟨hl, xs, hp, hd⟩ := h
    exact ⟨n, xs, hp, hd.symm⟩

theorem trod_array_m {k : Nat} {e : TypeId} {w : World} {fuel : Nat} {cs : List Value} {x : DataW H × List MemPlace} (ht : P.underlying t = some (.array k e)) (h : DataW.trod enc P w 0 (fun _ => true) true fuel t cs = some x) :
    ∃ (n : Nat) (rs : List (DataW H × List MemPlace)), cs.length = P.cellsOf t ∧ ((List.range k).mapM fun i => DataW.trod enc P w 0 (fun _ => true) true n e ((cs.drop (i * P.cellsOf e)).take (P.cellsOf e))) = some rs ∧ x = (.agg (rs.map (·.1)), rs.flatMap (·.2)) := by
  cases fuel with
  | zero => simp [DataW.trod] at h
  | succ n =>
    unfold DataW.trod at h
    rw [ht] at h
    split at h <;> simp_all
    obtain ⟨hl, xs, hp, hd⟩ := h
    exact ⟨n, xs, hp, hd.symm⟩

theorem reads_struct {fields : Array Field} {l : List TypeId} {α : Type} {pv : α → List PV} {wt : α → Nat} {inv : α → Prop} (ht : P.underlying t = some (.struct fields))
    (hl : fields.toList.map (·.type) = l) (hsz : P.cellsOf t = (l.map P.cellsOf).sum)
    (hoff : (List.range l.length).all (fun i => ((fields.toList.map (·.offset))[i]?.getD 0) == ((l.take i).map P.cellsOf).sum) = true) (h1 : ReadsF enc P l pv wt inv) :
    Reads enc P t (fun x => .agg (pv x)) (fun x => 1 + wt x) inv := by
  intro w fuel cs d ps h
  obtain ⟨n, rs, hlen, hrs, e0⟩ := trod_struct_m ht h
  simp only [Prod.mk.injEq] at e0
  obtain ⟨rfl, rfl⟩ := e0
  have e := mapM_congr' (f := fun f : Field => DataW.trod enc P w 0 (fun _ => true) true n f.type ((cs.drop f.offset).take (P.cellsOf f.type)))
    (g := fun f : Nat × TypeId => DataW.trod enc P w 0 (fun _ => true) true n f.2 ((cs.drop f.1).take (P.cellsOf f.2))) (fun f : Field => (f.offset, f.type)) (fun _ => rfl) fields.toList
  rw [e] at hrs
  have := h1 w n (fields.toList.map fun f => (f.offset, f.type)) 0 cs rs (by rw [List.map_map]; exact hl) (fun i f hf => by
    have hi : i < l.length := by
      have := (List.getElem?_eq_some_iff.1 hf).1
      rw [← hl]; simpa using this
    have := List.all_eq_true.1 hoff i (List.mem_range.2 hi)
    simp only [beq_iff_eq] at this
    rw [Nat.zero_add, ← this]
    rw [List.getElem?_map] at hf ⊢
    cases hfi : fields.toList[i]? with
    | none => rw [hfi] at hf; cases hf
    | some f' => rw [hfi] at hf; simp at hf ⊢; rw [← hf]) (by rw [hlen, hsz]; omega) hrs
  obtain ⟨x, hx, hw, hc⟩ := this
  refine ⟨x, hx, ?_, hc⟩
  simp only [uptoBulk]
  omega

/-- An array's elements. -/
theorem reads_array {e : TypeId} {n : Nat} {α : Type} {pv : α → PV} {wt : α → Nat} {inv : α → Prop} (ht : P.underlying t = some (.array n e)) (hsz : P.cellsOf t = n * P.cellsOf e) (he : Reads enc P e pv wt inv) :
    Reads enc P t (fun xs : List α => .agg (xs.flatMap fun x => (pv x).cells)) (fun xs => 1 + sumWt wt xs) (fun xs => xs.length = n ∧ ∀ y ∈ xs, inv y) := by
  intro w fuel cs d ps h
  obtain ⟨m, rs, hlen, hrs, e0⟩ := trod_array_m ht h
  simp only [Prod.mk.injEq] at e0
  obtain ⟨rfl, rfl⟩ := e0
  have key : ∀ (n k : Nat) (rs : List (DataW H × List MemPlace)), cs.length = (k + n) * P.cellsOf e →
      ((List.range' k n).mapM fun i => DataW.trod enc P w 0 (fun _ => true) true m e ((cs.drop (i * P.cellsOf e)).take (P.cellsOf e))) = some rs →
      ∃ xs : List α, xs.length = n ∧ (∀ x ∈ xs, inv x) ∧ sumWt wt xs ≤ uptoBulkAll (rs.map (·.1)) ∧ RL allImm w (xs.flatMap fun x => (pv x).cells) (cs.drop (k * P.cellsOf e)) := by
    intro n
    induction n with
    | zero =>
      intro k rs hl h
      refine ⟨[], rfl, by simp, by simp [sumWt], ?_⟩
      rw [List.drop_eq_nil_of_le (by rw [hl]; simp)]
      rfl
    | succ n ih =>
      intro k rs hl h
      rw [List.range'_succ, List.mapM_cons] at h
      simp only [Option.bind_eq_bind, Option.bind_eq_some_iff] at h
      obtain ⟨r, hr, rs', hrs, hh⟩ := h
      have hh : rs = r :: rs' := by simpa using hh.symm
      subst hh
      obtain ⟨d, ps⟩ := r
      obtain ⟨x, hx, hwx, hcx⟩ := he w m _ d ps hr
      obtain ⟨xs, hl', hi, hwt, hrl⟩ := ih (k + 1) rs' (by rw [hl]; congr 1; omega) hrs
      refine ⟨x :: xs, by simp [hl'], ?_, ?_, ?_⟩
      · intro y hy
        rcases List.mem_cons.1 hy with rfl | hy
        · exact hx
        · exact hi y hy
      · simp only [sumWt, List.map_cons, List.sum_cons, uptoBulkAll] at hwt ⊢
        omega
      · have : cs.drop (k * P.cellsOf e) = (cs.drop (k * P.cellsOf e)).take (P.cellsOf e) ++ cs.drop ((k + 1) * P.cellsOf e) := by
          rw [Nat.add_mul, Nat.one_mul, ← List.drop_drop, List.take_append_drop]
        rw [this, List.flatMap_cons]
        exact RL_append hcx hrl
  rw [List.range_eq_range'] at hrs
  obtain ⟨xs, hl, hi, hwt, hrl⟩ := key n 0 rs (by rw [hlen, hsz]; simp) hrs
  refine ⟨xs, ⟨hl, hi⟩, ?_, by simpa [PV.cells] using hrl⟩
  simp only [uptoBulk]
  omega

/-- The argument's value lies in one cell. -/
def oneT (P : Program) (t : TypeId) : Bool :=
  match P.underlying t with
  | some .bool | some .string | some (.int _) | some (.slice _) => true
  | _ => false

/-- An argument, whole. -/
def ReadsArg {H : Type} (enc : TypeId × Value → H) (P : Program) (t : TypeId) {α : Type} (pv : α → PV) (wt : α → Nat) (inv : α → Prop) : Prop :=
  ∀ (w : World) (v : Value) (d : DataW H) (ps : List MemPlace) (b : Nat), Value.okWide P w .any b t v → DataW.Trod enc P w 0 (fun _ => true) true t v d ps → ∃ x, inv x ∧ wt x ≤ uptoBulk d ∧ RP allImm w (pv x) v

theorem Reads.one {α : Type} {pv : α → PV} {wt : α → Nat} {inv : α → Prop} (h : Reads enc P t pv wt inv) (hp : oneT P t = true) (h1 : ∀ x, (pv x).cells = [pv x]) : ReadsArg enc P t pv wt inv := by
  intro w v d ps b hv ⟨fuel, hf⟩
  obtain ⟨x, hx, hw, hc⟩ := h w fuel _ d ps hf
  refine ⟨x, hx, hw, ?_⟩
  have e : v.cells.toList = [v] := by
    cases v with
    | agg cs =>
      exfalso
      unfold oneT at hp
      unfold Value.okWide Cell.okWide Cell.ok at hv
      split at hp <;> rename_i he <;> first | cases hp; done | (rw [he] at hv; exact hv)
    | _ => rfl
  rw [e, h1 x] at hc
  obtain ⟨u, r, h2, h3, h4, h5⟩ := hc
  simp only [List.cons.injEq] at h2
  rw [h2.1]
  exact h4

theorem Reads.agg {α : Type} {pv : α → List PV} {wt : α → Nat} {inv : α → Prop} (h : Reads enc P t (fun x => .agg (pv x)) wt inv) (hp : isAggT P t = true) : ReadsArg enc P t (fun x => .agg (pv x)) wt inv := by
  intro w v d ps b hv ⟨fuel, hf⟩
  obtain ⟨x, hx, hw, hc⟩ := h w fuel _ d ps hf
  refine ⟨x, hx, hw, ?_⟩
  have e : ∃ cs, v = .agg cs := by
    unfold isAggT at hp
    unfold Value.okWide at hv
    split at hp <;> rename_i he <;> first | cases hp; done | (rw [he] at hv; obtain ⟨cs, rfl, _⟩ := hv; exact ⟨cs, rfl⟩)
  obtain ⟨cs, rfl⟩ := e
  exact ⟨cs.toList, by simp, hc⟩

open Go.ChangeShapes in
/-- **A law that gives true**: what the row asks, out of the contract. -/
theorem law_post {f : FuncId} {fn : Func} {s : ChangeSpec} {tb : TypeId} {W : World} {args : Array Value} {ds gs : List (DataW H)} {before : List MemPlace} {svs : List SV}
    (hl : laidOutB P = true) (hrr : fn.params.toList.all (fun t => P.readableRec t && decide (t < P.types.size)) = true) (hvars : s.vars = []) (hres : fn.resultTypes = #[tb]) (htb : P.underlying tb = some .bool)
    (hfn : s.fn H (ds ++ gs) = { results := [.lit (.bool true)], args := ds })
    (hW : DataW.Whole enc P fn.params.toList s.vars false W args.toList ds gs before)
    (hgl : Gl allImm W) (hargs : RTL allImm W (fun _ => none) svs args.toList)
    (h : CallOk P f svs [] fun r st' => r = vB true ∧ st' = []) (hfn' : isFn P f := by exact ⟨_, rfl, rfl, rfl⟩) :
    Calls P f args W fun e W' => ∃ v, e = .returned v ∧ s.post enc P fn false true false false W args v W' := by
  have := (h allImm (fun _ => none) W args.toList hgl hargs (fun o ob ho => by simp at ho) (fun _ _ => rfl)).calls hfn'
  refine this.mono ?_
  rintro e W' ⟨r, v, st', χ', G', ⟨rfl, rfl⟩, rfl, hr, _, hfr, _, _, _⟩
  have hv : v = .bool true := hr
  subst hv
  have hb : Below W.heap.size W W' := ⟨hfr.os, hfr.tape, hfr.output, hfr.size, fun k hk => (hfr.imm k hk rfl).2⟩
  refine ⟨_, rfl, ?_⟩
  have hW' := hW
  obtain ⟨p, q, hA, hV, hpq, hfz, hnd⟩ := hW
  rw [hvars] at hV
  obtain ⟨rfl, rfl⟩ := trodVars_none hV
  have hlt : ∀ x ∈ p, x.block < W.heap.size := fun x hx => hW'.lt x (by rw [hpq]; simpa using hx)
  refine post_of_below (pa := p) (pv := []) hW' (fun _ _ _ => ?_) (fun sp hsp => ?_) (fun _ _ => ?_) (by rw [hpq]) hb (ok_one hres rfl (okWide_bool_mk htb true))
  · rw [hfn, hres]
    exact trodAll_mk1 (shut_bool htb true)
  · rw [hfn]
    have hsp' : ∀ x ∈ p, sp x.block = true := fun x hx => hsp x (by rw [hpq]; simpa using hx)
    have key : ∀ (ts : List TypeId) (vs : List Value) (ds : List (DataW H)) (p : List MemPlace), ts.all (fun t => P.readableRec t && decide (t < P.types.size)) = true →
        DataW.TrodAll enc P W 0 (fun _ => true) true ts vs ds p → (∀ x ∈ p, x.block < W.heap.size) → (∀ x ∈ p, sp x.block = true) → DataW.TrodAll enc P W' 0 sp true ts vs ds p := by
      intro ts
      induction ts with
      | nil =>
        intro vs ds p _ h _ _
        cases vs <;> cases ds <;> first | exact h | exact h.elim
      | cons t ts ih =>
        intro vs ds p hall h hlt hsp
        cases vs with
        | nil => cases ds <;> exact h.elim
        | cons v vs =>
          cases ds with
          | nil => exact h.elim
          | cons d ds =>
            obtain ⟨p0, q0, h0, h1, rfl⟩ := h
            simp only [List.all_cons, Bool.and_eq_true, decide_eq_true_eq] at hall
            exact ⟨p0, q0, WideElems.Trod_stays hl hall.1.1 hall.1.2 h0 (fun x hx => hb.same (hlt x (by simp [hx]))) (fun x hx => hsp x (by simp [hx])),
              ih vs ds q0 (by simpa using hall.2) h1 (fun x hx => hlt x (by simp [hx])) (fun x hx => hsp x (by simp [hx])), rfl⟩
    exact key _ _ _ _ hrr hA hlt hsp'
  · rw [hfn, hvars]
    rfl

end
end Go.Sy
/- Helps: bytes, numbers in their bounds, loops with more state. -/
set_option linter.all false
set_option maxHeartbeats 4000000
set_option maxRecDepth 100000
namespace Go.Sy
open Go.RowKit

theorem must_nn {b : Bool} {n : Nat} {K : Prop} (h : b = true) (k : K) : must (b && n == n) K := by rw [must_iff]; exact ⟨by simp [h], k⟩

def u8s (l : List Int) : List PV := l.map fun x => .val (.int .u8 x)
theorem u8s_get {l : List Int} {i : Nat} {p : PV} (h : (u8s l)[i]? = some p) : p = .val (.int .u8 (l.getD i 0)) ∧ i < l.length := by
  unfold u8s at h
  rw [List.getElem?_map, Option.map_eq_some_iff] at h
  obtain ⟨x, hx, rfl⟩ := h
  exact ⟨by rw [List.getD_eq_getElem?_getD, hx]; rfl, (List.getElem?_eq_some_iff.1 hx).1⟩
theorem u8s_len (l : List Int) : (u8s l).length = l.length := by simp [u8s]
abbrev bts (nl : Bool) (l : List Int) : SV := .pure (.list 1 nl (u8s l))
theorem w64 {n : Int} (h : -9223372036854775808 ≤ n) (h' : n ≤ 9223372036854775807) : IntKind.i64.wrap n = n := by
  rw [IntKind.wrap_i64]; omega

/-- The bits of bytes, the highest first. -/
def bitI (l : List Int) (i : Int) : Int := (l.getD (i / 8).toNat 0) / 2 ^ (7 - i % 8).toNat % 2

/-- The same, of 2. -/
theorem awp_loop2 {P : Program} {k : Kx} {n : Nat} {c : Code} {σ : St} {Q : Exit → St → Prop} {α β : Type} (inv : α → β → Prop) (sl : α → β → List (Nat × SV)) (st : α → β → List Ob) (μ : α → β → Nat) (x0 : α) (y0 : β) (f0 : Nat → Nat)
    (h0 : inv x0 y0) (hn : σ.env.length = n) (hl : holds f0 σ.env (sl x0 y0)) (hst : σ.st.take (st x0 y0).length = upSt f0 0 (st x0 y0)) (hf0 : ∀ o, o < k.n → f0 o = 0)
    (hi : ∀ x y, k.n ≤ (st x y).length ∧ SV.inL (st x y).length ((sl x y).map (·.2)) = true ∧ (st x y).all (Ob.inn (st x y).length) = true)
    (round : ∀ x y, inv x y → vc P k c ⟨mkEnv n (sl x y), st x y⟩ fun e σ' => match e with
      | .normal => ∃ x' y' f, inv x' y' ∧ μ x' y' < μ x y ∧ σ'.env.length = n ∧ holds f σ'.env (sl x' y') ∧ σ'.st.take (st x' y').length = upSt f 0 (st x' y') ∧ (∀ o, o < k.n → f o = 0)
      | e => Q e σ') (hdi : SV.inL k.n k.dss = true := by rfl) : Hand P k (.loop c) σ Q := by
  refine ⟨fun E a w hE hr => ?_⟩
  refine wpIn_loop_ghost (fun m a w => ∃ x y, inv x y ∧ μ x y = m ∧ Rel E ⟨mkEnv n (sl x y), st x y⟩ a w) (μ x0 y0) ⟨x0, y0, h0, rfl, weaken f0 hE hr hn hl hst (hi x0 y0).1 hf0 hdi (hi x0 y0).2.1 (hi x0 y0).2.2⟩ ?_
  rintro m a w ⟨x, y, hx, rfl, hr⟩
  refine wpIn_mono (vc_sound c _ _ (round x y hx) E a w hE hr) ?_
  rintro e a' w' ⟨σ', hq, hr'⟩
  cases e with
  | normal =>
    obtain ⟨x', y', f, h1, h2, h3, h4, h5, h6⟩ := hq
    exact ⟨μ x' y', h2, x', y', h1, rfl, weaken f hE hr' h3 h4 h5 (hi x' y').1 h6 hdi (hi x' y').2.1 (hi x' y').2.2⟩
  | exit id => exact ⟨σ', hq, hr'⟩
  | goto l => exact ⟨σ', hq, hr'⟩
  | ret => exact ⟨σ', hq, hr'⟩
  | panic ch => exact ⟨σ', hq, hr'⟩
  | outgrown => exact ⟨σ', hq, hr'⟩

/-- The same, of 3. -/
theorem awp_loop3 {P : Program} {k : Kx} {n : Nat} {c : Code} {σ : St} {Q : Exit → St → Prop} {α β γ : Type} (inv : α → β → γ → Prop) (sl : α → β → γ → List (Nat × SV)) (st : α → β → γ → List Ob) (μ : α → β → γ → Nat) (x0 : α) (y0 : β) (z0 : γ) (f0 : Nat → Nat)
    (h0 : inv x0 y0 z0) (hn : σ.env.length = n) (hl : holds f0 σ.env (sl x0 y0 z0)) (hst : σ.st.take (st x0 y0 z0).length = upSt f0 0 (st x0 y0 z0)) (hf0 : ∀ o, o < k.n → f0 o = 0)
    (hi : ∀ x y z, k.n ≤ (st x y z).length ∧ SV.inL (st x y z).length ((sl x y z).map (·.2)) = true ∧ (st x y z).all (Ob.inn (st x y z).length) = true)
    (round : ∀ x y z, inv x y z → vc P k c ⟨mkEnv n (sl x y z), st x y z⟩ fun e σ' => match e with
      | .normal => ∃ x' y' z' f, inv x' y' z' ∧ μ x' y' z' < μ x y z ∧ σ'.env.length = n ∧ holds f σ'.env (sl x' y' z') ∧ σ'.st.take (st x' y' z').length = upSt f 0 (st x' y' z') ∧ (∀ o, o < k.n → f o = 0)
      | e => Q e σ') (hdi : SV.inL k.n k.dss = true := by rfl) : Hand P k (.loop c) σ Q := by
  refine ⟨fun E a w hE hr => ?_⟩
  refine wpIn_loop_ghost (fun m a w => ∃ x y z, inv x y z ∧ μ x y z = m ∧ Rel E ⟨mkEnv n (sl x y z), st x y z⟩ a w) (μ x0 y0 z0) ⟨x0, y0, z0, h0, rfl, weaken f0 hE hr hn hl hst (hi x0 y0 z0).1 hf0 hdi (hi x0 y0 z0).2.1 (hi x0 y0 z0).2.2⟩ ?_
  rintro m a w ⟨x, y, z, hx, rfl, hr⟩
  refine wpIn_mono (vc_sound c _ _ (round x y z hx) E a w hE hr) ?_
  rintro e a' w' ⟨σ', hq, hr'⟩
  cases e with
  | normal =>
    obtain ⟨x', y', z', f, h1, h2, h3, h4, h5, h6⟩ := hq
    exact ⟨μ x' y' z', h2, x', y', z', h1, rfl, weaken f hE hr' h3 h4 h5 (hi x' y' z').1 h6 hdi (hi x' y' z').2.1 (hi x' y' z').2.2⟩
  | exit id => exact ⟨σ', hq, hr'⟩
  | goto l => exact ⟨σ', hq, hr'⟩
  | ret => exact ⟨σ', hq, hr'⟩
  | panic ch => exact ⟨σ', hq, hr'⟩
  | outgrown => exact ⟨σ', hq, hr'⟩

/-- The same, of 4. -/
theorem awp_loop4 {P : Program} {k : Kx} {n : Nat} {c : Code} {σ : St} {Q : Exit → St → Prop} {α β γ δ : Type} (inv : α → β → γ → δ → Prop) (sl : α → β → γ → δ → List (Nat × SV)) (st : α → β → γ → δ → List Ob) (μ : α → β → γ → δ → Nat) (x0 : α) (y0 : β) (z0 : γ) (u0 : δ) (f0 : Nat → Nat)
    (h0 : inv x0 y0 z0 u0) (hn : σ.env.length = n) (hl : holds f0 σ.env (sl x0 y0 z0 u0)) (hst : σ.st.take (st x0 y0 z0 u0).length = upSt f0 0 (st x0 y0 z0 u0)) (hf0 : ∀ o, o < k.n → f0 o = 0)
    (hi : ∀ x y z u, k.n ≤ (st x y z u).length ∧ SV.inL (st x y z u).length ((sl x y z u).map (·.2)) = true ∧ (st x y z u).all (Ob.inn (st x y z u).length) = true)
    (round : ∀ x y z u, inv x y z u → vc P k c ⟨mkEnv n (sl x y z u), st x y z u⟩ fun e σ' => match e with
      | .normal => ∃ x' y' z' u' f, inv x' y' z' u' ∧ μ x' y' z' u' < μ x y z u ∧ σ'.env.length = n ∧ holds f σ'.env (sl x' y' z' u') ∧ σ'.st.take (st x' y' z' u').length = upSt f 0 (st x' y' z' u') ∧ (∀ o, o < k.n → f o = 0)
      | e => Q e σ') (hdi : SV.inL k.n k.dss = true := by rfl) : Hand P k (.loop c) σ Q := by
  refine ⟨fun E a w hE hr => ?_⟩
  refine wpIn_loop_ghost (fun m a w => ∃ x y z u, inv x y z u ∧ μ x y z u = m ∧ Rel E ⟨mkEnv n (sl x y z u), st x y z u⟩ a w) (μ x0 y0 z0 u0) ⟨x0, y0, z0, u0, h0, rfl, weaken f0 hE hr hn hl hst (hi x0 y0 z0 u0).1 hf0 hdi (hi x0 y0 z0 u0).2.1 (hi x0 y0 z0 u0).2.2⟩ ?_
  rintro m a w ⟨x, y, z, u, hx, rfl, hr⟩
  refine wpIn_mono (vc_sound c _ _ (round x y z u hx) E a w hE hr) ?_
  rintro e a' w' ⟨σ', hq, hr'⟩
  cases e with
  | normal =>
    obtain ⟨x', y', z', u', f, h1, h2, h3, h4, h5, h6⟩ := hq
    exact ⟨μ x' y' z' u', h2, x', y', z', u', h1, rfl, weaken f hE hr' h3 h4 h5 (hi x' y' z' u').1 h6 hdi (hi x' y' z' u').2.1 (hi x' y' z' u').2.2⟩
  | exit id => exact ⟨σ', hq, hr'⟩
  | goto l => exact ⟨σ', hq, hr'⟩
  | ret => exact ⟨σ', hq, hr'⟩
  | panic ch => exact ⟨σ', hq, hr'⟩
  | outgrown => exact ⟨σ', hq, hr'⟩

end Go.Sy
/- Calls by contracts that tell their result. -/
set_option linter.all false
set_option maxHeartbeats 4000000
namespace Go.Sy
open Go.RowKit

theorem CallIn.to {P : Program} {f : FuncId} {args args' : List SV} {st : List Ob} {R : Res} {v : SV} (h : CallOk P f args' [] fun r st' => st' = [] ∧ r = v) (ha : args.map (SV.fz st) = args' := by rfl) (hn : SV.inL 0 args' = true := by rfl)
    (hf : args' = args ∨ v.flat = true := by first | exact .inl rfl | exact .inr rfl) (k : R v st) : CallIn P f args st none R := by
  subst ha
  exact .pure (fun r => r = v) h hn (hf.imp id fun h r hr => by rw [hr]; exact h) fun r hr => by rw [hr]; exact k

theorem CallIn.dto {P : Program} {f : FuncId} {args args' : List SV} {st : List Ob} {q : SV → Prop} {R : Res} {v : SV} (h : CallOk P f args' [] fun r st' => st' = [] ∧ r = v) (ha : args.map (SV.fz st) = args' := by rfl) (hn : SV.inL 0 args' = true := by rfl)
    (hf : args' = args ∨ v.flat = true := by first | exact .inl rfl | exact .inr rfl) (hq : q = fun r => r = v := by rfl) (k : R v st) : CallIn P f args st (some q) R := by
  subst ha hq
  exact .draw h hn (hf.imp id fun h r hr => by rw [hr]; exact h) fun r hr => by rw [hr]; exact k

/-- A call that tells a truth: by its two ways. -/
theorem CallIn.tob {P : Program} {f : FuncId} {args args' : List SV} {st : List Ob} {R : Res} {c : Bool} (h : CallOk P f args' [] fun r st' => st' = [] ∧ r = vB c) (ha : args.map (SV.fz st) = args' := by rfl) (hn : SV.inL 0 args' = true := by rfl)
    (k : ∀ b : Bool, c = b → R (vB b) st) : CallIn P f args st none R := .to h ha hn (.inr rfl) (k c rfl)
theorem CallIn.dtob {P : Program} {f : FuncId} {args args' : List SV} {st : List Ob} {q : SV → Prop} {R : Res} {c : Bool} (h : CallOk P f args' [] fun r st' => st' = [] ∧ r = vB c) (ha : args.map (SV.fz st) = args' := by rfl) (hn : SV.inL 0 args' = true := by rfl)
    (hq : q = fun r => r = vB c := by rfl) (k : ∀ b : Bool, c = b → R (vB b) st) : CallIn P f args st (some q) R := .dto h ha hn (.inr rfl) hq (k c rfl)

/-- A call whose result is one of some. -/
theorem CallIn.top {P : Program} {f : FuncId} {args args' : List SV} {st : List Ob} {R : Res} {q : SV → Prop} (h : CallOk P f args' [] fun r st' => st' = [] ∧ q r) (ha : args.map (SV.fz st) = args' := by rfl) (hn : SV.inL 0 args' = true := by rfl)
    (hf : args' = args ∨ ∀ r, q r → r.flat = true := by exact .inl rfl) (k : ∀ r, q r → R r st) : CallIn P f args st none R := by
  subst ha
  exact .pure q h hn hf k

/-- A call on objects. -/
theorem CallIn.o {P : Program} {f : FuncId} {args : List SV} {st : List Ob} {R : Res} (ids : List Nat) {args' : List SV} {obs : List Ob} {Q : Res} (h : CallOk P f args' obs Q) (hn : decide ids.Nodup = true := by rfl) (hi : (ids.all fun i => decide (i < st.length)) = true := by rfl)
    (ha : args = SV.rnL (fun j => ids.getD j 0) args' := by rfl) (hb : SV.inL ids.length args' = true := by rfl)
    (ho : ids.map (fun i => st.getD i .gone) = obs.map (Ob.rn fun j => ids.getD j 0) := by rfl) (hob : obs.all (Ob.inn ids.length) = true := by rfl)
    (k : ∀ r st', Q r st' → R (r.rn (backN ids st.length)) (backSt ids st st')) : CallIn P f args st none R :=
  .obj ids args' obs Q (of_decide_eq_true hn) (fun i h' => of_decide_eq_true (List.all_eq_true.1 hi i h')) ha hb ho hob h k

theorem CallOk.conv {P : Program} {f : FuncId} {args args' : List SV} {st st0 : List Ob} {Q : Res} (h : CallOk P f args st Q) (e : args = args') (e2 : st = st0) : CallOk P f args' st0 Q := by rw [← e, ← e2]; exact h

end Go.Sy
/- Nothing, as a row of one's own that is empty yet. -/
set_option linter.all false
set_option maxHeartbeats 4000000
namespace Go.Sy
open Go.RowKit

theorem Rel.ghost {E : Ent} {env : List SV} {st : List Ob} {a : Act} {w : World} (h : Rel E ⟨env, st⟩ a w) (d : Nat) (e sz : Nat) (hd : env.getD d .dead = .pure (.list sz true [])) :
    Rel E ⟨env.set d (.vref st.length 0), st ++ [.vec 0 e sz true []]⟩ a w := by
  obtain ⟨χ, G, hf⟩ := h
  have hf : Fits E χ G ⟨env, st⟩ a w := hf
  have hu := hf.1.get d
  rw [hd] at hu
  obtain ⟨A, c, us, h1, h2, h3, h4, h5, h6, h7⟩ := hu
  have hA : A = none := h5.1 rfl
  have hc := h4 hA
  subst hA hc
  obtain ⟨χ', g1, g2⟩ := hf.newVec (e := e) (sz := sz) (w' := w) (hd := .slice none 0 0) (nl := true) (xs := []) (us := []) rfl rfl rfl (Nat.le_refl _) (fun _ _ => rfl) ⟨by simp, .inl ⟨rfl, rfl⟩⟩ rfl (by simp) (fun g hg => by cases hg)
  obtain ⟨k1, k2, k3, k4, k5, k6, k7⟩ := g1
  refine ⟨χ', _, RTL_set_any k1 d ?_, k2, k3, k4, k5, k6, k7⟩
  rw [h1]
  exact g2

/-- A loop's start, where a slot holds nothing. -/
theorem hand_ghost {P : Program} {k : Kx} {c : Code} {env : List SV} {st : List Ob} {Q : Exit → St → Prop} (d e sz : Nat) (hd : env.getD d .dead = .pure (.list sz true []))
    (h : Hand P k c ⟨env.set d (.vref st.length 0), st ++ [.vec 0 e sz true []]⟩ Q) : Hand P k c ⟨env, st⟩ Q := by
  obtain ⟨h⟩ := h
  exact ⟨fun E a w hE hr => h E a w hE (hr.ghost d e sz hd)⟩

theorem isEmpty_snoc {α : Type} (b : Bool) (l : List α) (x : α) : (b && [x].isEmpty) = (l ++ [x]).isEmpty := by simp

end Go.Sy
namespace Go.Sy
open Go.RowKit
/-- A slot that names a row which nobody writes any more. -/
def fzAt (o n : Nat) (p : PV) (s : SV) : SV :=
  match s with
  | .vref o' n' => if (o' == o && n' == n) = true then .pure p else s
  | s => s

theorem Rel.freeze {E : Ent} {env : List SV} {st : List Ob} {a : Act} {w : World} (h : Rel E ⟨env, st⟩ a w) {o n e sz : Nat} {nl : Bool} {xs : List PV} (ho : st[o]? = some (.vec n e sz nl xs)) :
    Rel E ⟨env.map (fzAt o n (.list sz nl xs)), st.set o (.fro n sz nl xs)⟩ a w := by
  obtain ⟨χ, G, hf⟩ := h
  have hf : Fits E χ G ⟨env, st⟩ a w := hf
  obtain ⟨χ', hd, g1, g2, g3, g4⟩ := hf.freeze ho
  obtain ⟨k1, k2, k3, k4, k5, k6, k7⟩ := g1
  refine ⟨χ', G, ?_, k2, k3, k4, k5, k6, k7⟩
  have key : ∀ (env : List SV) (us : List Value), RTL χ' w G env us → RTL χ' w G (env.map (fzAt o n (.list sz nl xs))) us := by
    intro env
    induction env with
    | nil => intro us h; exact h
    | cons s env ih =>
      rintro us ⟨u, r, rfl, h1, h2⟩
      refine ⟨u, r, rfl, ?_, ih r h2⟩
      unfold fzAt
      split
      · rename_i o' n'
        split
        · rename_i hon
          simp only [Bool.and_eq_true, beq_iff_eq] at hon
          obtain ⟨rfl, rfl⟩ := hon
          obtain ⟨_, m, hd', e1, e2, e3⟩ := h1
          rw [g3] at e1
          cases e1
          rw [e3 rfl]
          exact g4
        · exact h1
      · exact h1
  exact key _ _ k1

theorem rest_frz {P : Program} {k : Kx} {c : Code} {env : List SV} {st : List Ob} {Q : Exit → St → Prop} (o : Nat) {n e sz : Nat} {nl : Bool} {xs : List PV} (ho : st[o]? = some (.vec n e sz nl xs))
    (h : Rest P k c ⟨env.map (fzAt o n (.list sz nl xs)), st.set o (.fro n sz nl xs)⟩ Q) : Rest P k c ⟨env, st⟩ Q := by
  obtain ⟨h⟩ := h
  exact ⟨fun E a w hE hr => h E a w hE (hr.freeze ho)⟩

theorem hand_frz {P : Program} {k : Kx} {c : Code} {env : List SV} {st : List Ob} {Q : Exit → St → Prop} (o : Nat) {n e sz : Nat} {nl : Bool} {xs : List PV} (ho : st[o]? = some (.vec n e sz nl xs))
    (h : Hand P k c ⟨env.map (fzAt o n (.list sz nl xs)), st.set o (.fro n sz nl xs)⟩ Q) : Hand P k c ⟨env, st⟩ Q := by
  obtain ⟨h⟩ := h
  exact ⟨fun E a w hE hr => h E a w hE (hr.freeze ho)⟩

end Go.Sy
namespace Go.Sy
open Go.RowKit
def Ob.fzAt (o n : Nat) (p : PV) : Ob → Ob
  | .cells t cs => .cells t (cs.map (Sy.fzAt o n p))
  | ob => ob
/-- The same, where variables hold the row too. -/
theorem Rel.freezeA {E : Ent} {env : List SV} {st : List Ob} {a : Act} {w : World} (h : Rel E ⟨env, st⟩ a w) {o n e sz : Nat} {nl : Bool} {xs : List PV} (ho : st[o]? = some (.vec n e sz nl xs)) :
    Rel E ⟨env.map (fzAt o n (.list sz nl xs)), (st.set o (.fro n sz nl xs)).map (Ob.fzAt o n (.list sz nl xs))⟩ a w := by
  obtain ⟨χ, G, hf⟩ := h
  have hf : Fits E χ G ⟨env, st⟩ a w := hf
  obtain ⟨χ', hd, g1, g2, g3, g4⟩ := hf.freeze ho
  obtain ⟨k1, k2, k3, k4, k5, k6, k7⟩ := g1
  have one : ∀ (s : SV) (u : Value), RS χ' w G s u → RS χ' w G (fzAt o n (.list sz nl xs) s) u := by
    intro s u h1
    unfold fzAt
    split
    · rename_i o' n'
      split
      · rename_i hon
        simp only [Bool.and_eq_true, beq_iff_eq] at hon
        obtain ⟨rfl, rfl⟩ := hon
        obtain ⟨_, m, hd', e1, e2, e3⟩ := h1
        rw [g3] at e1
        cases e1
        rw [e3 rfl]
        exact g4
      · exact h1
    · exact h1
  have key : ∀ (env : List SV) (us : List Value), RTL χ' w G env us → RTL χ' w G (env.map (fzAt o n (.list sz nl xs))) us := by
    intro env
    induction env with
    | nil => intro us h; exact h
    | cons s env ih =>
      rintro us ⟨u, r, rfl, h1, h2⟩
      exact ⟨u, r, rfl, one s u h1, ih r h2⟩
  have key2 : ∀ (cs : List SV) (us : List Value), RSL χ' w G cs us → RSL χ' w G (cs.map (fzAt o n (.list sz nl xs))) us := by
    intro cs
    induction cs with
    | nil => intro us h; exact h
    | cons s cs ih =>
      rintro us ⟨u, r, rfl, h0, h1, h2⟩
      exact ⟨u, r, rfl, h0, one s u h1, ih r h2⟩
  refine ⟨χ', G, key _ _ k1, fun o' ob hob => ?_, k3, k4, (by simpa using k5), k6, (by simpa using k7)⟩
  simp only [List.getElem?_map, Option.map_eq_some_iff] at hob
  obtain ⟨ob', hob', rfl⟩ := hob
  have := k2 o' ob' hob'
  cases ob' with
  | cells t cs =>
    obtain ⟨g, us, h1, h2, h3, h4⟩ := this
    exact ⟨g, us, h1, h2, h3, key2 _ _ h4⟩
  | _ => exact this

theorem rest_frza {P : Program} {k : Kx} {c : Code} {env : List SV} {st : List Ob} {Q : Exit → St → Prop} (o : Nat) {n e sz : Nat} {nl : Bool} {xs : List PV} (ho : st[o]? = some (.vec n e sz nl xs))
    (h : Rest P k c ⟨env.map (fzAt o n (.list sz nl xs)), (st.set o (.fro n sz nl xs)).map (Ob.fzAt o n (.list sz nl xs))⟩ Q) : Rest P k c ⟨env, st⟩ Q := by
  obtain ⟨h⟩ := h
  exact ⟨fun E a w hE hr => h E a w hE (hr.freezeA ho)⟩
theorem hand_frza {P : Program} {k : Kx} {c : Code} {env : List SV} {st : List Ob} {Q : Exit → St → Prop} (o : Nat) {n e sz : Nat} {nl : Bool} {xs : List PV} (ho : st[o]? = some (.vec n e sz nl xs))
    (h : Hand P k c ⟨env.map (fzAt o n (.list sz nl xs)), (st.set o (.fro n sz nl xs)).map (Ob.fzAt o n (.list sz nl xs))⟩ Q) : Hand P k c ⟨env, st⟩ Q := by
  obtain ⟨h⟩ := h
  exact ⟨fun E a w hE hr => h E a w hE (hr.freezeA ho)⟩


/-- The pure parts of cells, if all are. -/
def purs : List SV → Option (List PV)
  | [] => some []
  | .pure p :: r => (purs r).map (p :: ·)
  | _ :: _ => none
theorem purs_spec {χ : Nat → Color} {w : World} {G : Gh} : ∀ {cs : List SV} {ps : List PV} {us : List Value}, purs cs = some ps → RSL χ w G cs us → RL χ w ps us
  | [], ps, us, h, hr => by simp only [purs, Option.some.injEq] at h; subst h; exact hr
  | .pure p :: r, ps, us, h, hr => by
    simp only [purs, Option.map_eq_some_iff] at h
    obtain ⟨qs, h, rfl⟩ := h
    obtain ⟨u, t, e, h1, h2, h3⟩ := hr
    exact ⟨u, t, e, h1, h2, purs_spec h h3⟩
/-- A slot that points into cells which nobody writes any more. -/
def fcAt (o : Nat) (ps : List PV) (s : SV) : SV :=
  match s with
  | .ptr o' k => if (o' == o) = true then .ipt (ps.drop k) else s
  | s => s
theorem RL.drop' {χ : Nat → Color} {w : World} : ∀ {ps : List PV} {us : List Value} (k : Nat), RL χ w ps us → RL χ w (ps.drop k) (us.drop k)
  | ps, us, 0, h => h
  | [], us, k + 1, h => by
    have h : us = [] := h
    subst h
    exact rfl
  | p :: ps, us, k + 1, ⟨u, r, e, _, _, h⟩ => by
    subst e
    exact RL.drop' k h
theorem Rel.freezeC {E : Ent} {env : List SV} {st : List Ob} {a : Act} {w : World} (h : Rel E ⟨env, st⟩ a w) {o : Nat} {t : TypeId} {cs : List SV} {ps : List PV} (ho : st[o]? = some (.cells t cs)) (hp : purs cs = some ps) :
    Rel E ⟨env.map (fcAt o ps), st.set o .gone⟩ a w := by
  obtain ⟨χ, G, hf⟩ := h
  have hf : Fits E χ G ⟨env, st⟩ a w := hf
  have hlt : o < st.length := (List.getElem?_eq_some_iff.1 ho).1
  obtain ⟨g, us, hG, hcol, hheap, hl⟩ := hf.2.1 o _ ho
  have hk : Keep χ w (fun b => if b = g then .imm else χ b) w := fun b hlt hi => ⟨by simp only; split; rfl; exact hi, rfl⟩
  have hps := RL.mono hk _ _ (purs_spec hp hl)
  have hc : Cells (fun b => if b = g then .imm else χ b) w (some ⟨g, 0, none⟩) us := fun k u hu => ⟨_, rfl, by simp, by rw [add_pl]; simp [World.cell?, hheap, hu]⟩
  have g1 : Fits E (fun b => if b = g then .imm else χ b) G ⟨env, st.set o .gone⟩ a w := hf.set hlt rfl rfl rfl (Nat.le_refl _) (fun b hb hne => ⟨if_neg (fun e => hne (by rw [e]; exact hcol)), rfl⟩) (fun _ _ => rfl) ⟨fun g hg => hg, fun n hd hh => ⟨n, hd, hh, Nat.le_refl _, fun _ => rfl⟩⟩ trivial
  obtain ⟨k1, k2, k3, k4, k5, k6, k7⟩ := g1
  refine ⟨_, G, ?_, (by simpa using k2), k3, k4, (by simpa using k5), k6, (by simpa using k7)⟩
  have key : ∀ (env : List SV) (vs : List Value), RTL (fun b => if b = g then .imm else χ b) w G env vs → RTL (fun b => if b = g then .imm else χ b) w G (env.map (fcAt o ps)) vs := by
    intro env
    induction env with
    | nil => intro us h; exact h
    | cons s env ih =>
      rintro vs ⟨u, r, rfl, h1, h2⟩
      refine ⟨u, r, rfl, ?_, ih r h2⟩
      unfold fcAt
      split
      · rename_i o' k
        split
        · rename_i hon
          simp only [beq_iff_eq] at hon
          subst hon
          obtain ⟨g', e1, rfl⟩ := h1
          rw [hG] at e1
          injection e1 with e1
          injection e1 with e1
          subst e1
          have := hc.tail k
          rw [add_pl, Nat.zero_add] at this
          exact ⟨_, _, rfl, RL.drop' k hps, this⟩
        · exact h1
      · exact h1
  exact key _ _ k1

theorem Rel.torow {E : Ent} {env : List SV} {st : List Ob} {a : Act} {w : World} (h : Rel E ⟨env, st⟩ a w) {o : Nat} {t : TypeId} {cs : List SV} {ps : List PV} (ho : st[o]? = some (.cells t cs)) (hp : purs cs = some ps) :
    Rel E ⟨env, st.set o (.row t ps.length ps)⟩ a w := by
  obtain ⟨χ, G, hf⟩ := h
  have hf : Fits E χ G ⟨env, st⟩ a w := hf
  have hlt : o < st.length := (List.getElem?_eq_some_iff.1 ho).1
  obtain ⟨g, us, hG, hcol, hheap, hl⟩ := hf.2.1 o _ ho
  have hps := purs_spec hp hl
  exact (hf.set (ob := .row t ps.length ps) (w' := w) (χ' := χ) (G' := G) hlt rfl rfl rfl (Nat.le_refl _) (fun b hb hne => ⟨rfl, rfl⟩) (fun _ _ => rfl) ⟨fun g hg => hg, fun n hd hh => ⟨n, hd, hh, Nat.le_refl _, fun _ => rfl⟩⟩
    ⟨g, us, [], hG, hcol, by rw [hheap, List.append_nil], hps.length, hps⟩).rel
/-- A variable told as a row of pure cells. -/
theorem rest_torow {P : Program} {k : Kx} {c : Code} {env : List SV} {st : List Ob} {Q : Exit → St → Prop} (o : Nat) {t : TypeId} {cs : List SV} {ps : List PV} (ho : st[o]? = some (.cells t cs)) (hp : purs cs = some ps)
    (h : Rest P k c ⟨env, st.set o (.row t ps.length ps)⟩ Q) : Rest P k c ⟨env, st⟩ Q := by
  obtain ⟨h⟩ := h
  exact ⟨fun E a w hE hr => h E a w hE (hr.torow ho hp)⟩

/-- A loop over a map is over: the map is as it was. -/
theorem Rel.unrange {E : Ent} {env : List SV} {st : List Ob} {a : Act} {w : World} (h : Rel E ⟨env, st⟩ a w) {o mo : Nat} {es left : List (PV × PV)} {cur : Option (PV × PV)} (ho : st[o]? = some (.iter mo es left cur)) (hm : st[mo]? = some .gone) :
    Rel E ⟨env, (st.set o .gone).set mo (.map es)⟩ a w := by
  obtain ⟨χ, G, hf⟩ := h
  have hf : Fits E χ G ⟨env, st⟩ a w := hf
  obtain ⟨r, g, es', clock, since, seen, c0, k1, k2, k3, k4, k5, k6, k7, k8, k9, k10, k11, k12, k13, k14⟩ := hf.2.1 o _ ho
  have hlt := (List.getElem?_eq_some_iff.1 ho).1
  have hlm := (List.getElem?_eq_some_iff.1 hm).1
  have hne : mo ≠ o := fun e => by rw [e, ho] at hm; cases hm
  have hk : Keep χ w (upF χ g (.own mo)) w := fun b hb hi => ⟨by rw [upF_ne _ _ (fun e => by rw [e, k4] at hi; cases hi)]; exact hi, rfl⟩
  have hf1 : Fits E (upF χ g (.own mo)) G ⟨env, st.set o .gone⟩ a w :=
    hf.set hlt rfl rfl rfl (Nat.le_refl _) (fun b hb hn => ⟨upF_ne _ _ (fun e => hn (by rw [e]; exact k4)), rfl⟩) (fun _ _ => rfl) ⟨fun g hg => hg, fun n hd hh => ⟨n, hd, hh, Nat.le_refl _, fun _ => rfl⟩⟩ trivial
  have hf2 : Fits E (upF χ g (.own mo)) G ⟨env, (st.set o .gone).set mo (.map es)⟩ a w :=
    hf1.set (by simpa using hlm) rfl rfl rfl (Nat.le_refl _) (fun b hb hn => ⟨rfl, rfl⟩) (fun _ _ => rfl) ⟨fun g hg => hg, fun n hd hh => ⟨n, hd, hh, Nat.le_refl _, fun _ => rfl⟩⟩
      ⟨g, es', clock, k2, upF_same _ _ _, k5, RM.mono hk _ _ k6, k7, k8⟩
  exact hf2.rel
theorem rest_unrange {P : Program} {k : Kx} {c : Code} {env : List SV} {st : List Ob} {Q : Exit → St → Prop} (o : Nat) {mo : Nat} {es left : List (PV × PV)} {cur : Option (PV × PV)} (ho : st[o]? = some (.iter mo es left cur)) (hm : st[mo]? = some .gone)
    (h : Rest P k c ⟨env, (st.set o .gone).set mo (.map es)⟩ Q) : Rest P k c ⟨env, st⟩ Q := by
  obtain ⟨h⟩ := h
  exact ⟨fun E a w hE hr => h E a w hE (hr.unrange ho hm)⟩

/-- Nobody writes these cells any more. -/
theorem rest_frc {P : Program} {k : Kx} {c : Code} {env : List SV} {st : List Ob} {Q : Exit → St → Prop} (o : Nat) {t : TypeId} {cs : List SV} {ps : List PV} (ho : st[o]? = some (.cells t cs)) (hp : purs cs = some ps)
    (h : Rest P k c ⟨env.map (fcAt o ps), st.set o .gone⟩ Q) : Rest P k c ⟨env, st⟩ Q := by
  obtain ⟨h⟩ := h
  exact ⟨fun E a w hE hr => h E a w hE (hr.freezeC ho hp)⟩

theorem hand_frc {P : Program} {k : Kx} {c : Code} {env : List SV} {st : List Ob} {Q : Exit → St → Prop} (o : Nat) {t : TypeId} {cs : List SV} {ps : List PV} (ho : st[o]? = some (.cells t cs)) (hp : purs cs = some ps)
    (h : Hand P k c ⟨env.map (fcAt o ps), st.set o .gone⟩ Q) : Hand P k c ⟨env, st⟩ Q := by
  obtain ⟨h⟩ := h
  exact ⟨fun E a w hE hr => h E a w hE (hr.freezeC ho hp)⟩

end Go.Sy
namespace Go.Sy
/-- A truth that is known. -/
theorem onB_true {c : Bool} {R : Bool → Prop} (h : c = true) (k : R true) : onB c R := by subst h; exact k
theorem onB_false {c : Bool} {R : Bool → Prop} (h : c = false) (k : R false) : onB c R := by subst h; exact k
theorem onB_cases {c : Bool} {R : Bool → Prop} (h : ∀ b, c = b → R b) : onB c R := by cases c; exact h false rfl; exact h true rfl
end Go.Sy
namespace Go.Sy
open Go.RowKit
theorem CallIn.tox {P : Program} {f : FuncId} {args : List SV} {st : List Ob} {R : Res} {v : SV} (h : CallOk P f (args.map (SV.fz st)) [] fun r st' => st' = [] ∧ r = v) (hn : SV.inL 0 (args.map (SV.fz st)) = true := by rfl)
    (hf : args.map (SV.fz st) = args ∨ v.flat = true := by first | exact .inl rfl | exact .inr rfl) (k : R v st) : CallIn P f args st none R :=
  .pure (fun r => r = v) h hn (hf.imp id fun h r hr => by rw [hr]; exact h) fun r hr => by rw [hr]; exact k
end Go.Sy
/- A range over a function: a round's contract out of its walk; the statement. -/
set_option linter.all false
set_option maxHeartbeats 4000000
namespace Go.Sy
open Go.RowKit

section
variable {P : Program} {E : Ent} {a : Act} {w : World}

/-- The loop's variables set. -/
def setPs (env : List SV) (ps : List Tmp) (args : List SV) : List SV := (ps.zip args).foldl (fun env x => env.set x.1 x.2) env

theorem foldl_set_toList : ∀ (l : List (Tmp × Value)) (A : Array Value), (l.foldl (fun t x => t.setIfInBounds x.1 x.2) A).toList = l.foldl (fun t x => t.set x.1 x.2) A.toList
  | [], A => rfl
  | x :: l, A => by simp only [List.foldl_cons]; rw [foldl_set_toList l]; simp

theorem setPs_ok {χ : Nat → Color} {G : Gh} : ∀ (ps : List Tmp) {env args : List SV} {us vs : List Value}, RTL χ w G env us → RTL χ w G args vs → RTL χ w G (setPs env ps args) ((ps.zip vs).foldl (fun t x => t.set x.1 x.2) us)
  | [], env, args, us, vs, h, h' => h
  | p :: ps, env, [], us, vs, h, h' => by have : vs = [] := h'; subst this; exact h
  | p :: ps, env, s :: args, us, vs, h, ⟨v, r, e, h1, h2⟩ => by
    subst e
    exact setPs_ok ps (h.set p h1) h2

theorem setPs_tmps {χ : Nat → Color} {G : Gh} {ps : Array Tmp} {env args : List SV} {us vs : List Value} (h : RTL χ w G env us) (h' : RTL χ w G args vs) :
    RTL χ w G (setPs env ps.toList args) ((ps.zip vs.toArray).foldl (fun tmps (t, a) => tmps.setIfInBounds t a) us.toArray).toList := by
  rw [← Array.foldl_toList, Array.toList_zip, foldl_set_toList]
  exact setPs_ok _ h h'

/-- What is handed back at a round's end. -/
def roundFin (m : Nat) (Q : Res) (b : Bool) (st : List Ob) : Prop := must (decide (m ≤ st.length) && (st.take m).all (Ob.inn m)) (Q (vB b) (st.take m))
/-- A round's end. -/
def roundEnd (m : Nat) (Q : Res) (e : Exit) (σ : St) : Prop :=
  match σ.st with
  | .loop env ps a b s p :: r =>
    match e with
    | .normal => roundFin m Q true (.loop env ps a b .ready none :: r)
    | .ret => roundFin m Q false (.loop env ps a b .done (some .ret) :: r)
    | .exit id => roundFin m Q false (.loop env ps a b .done (some (.exit id)) :: r)
    | _ => False
  | _ => False
/-- The loop's variables have been set: the round begins. -/
def roundBegin (P : Program) (m : Nat) (body : Code) (Q : Res) (e : Exit) (σ : St) : Prop :=
  match e with
  | .normal => match σ.st with
    | .loop env ps a b .ready p :: r => Rest P { n := m, rnd := true } body ⟨σ.env, .loop env ps a b .busy p :: r⟩ (roundEnd m Q)
    | _ => False
  | _ => False

/-- The loop's record turns. -/
theorem Fits.loop {χ : Nat → Color} {G : Gh} {env : List SV} {lenv : List SV} {ps : Array Tmp} {asg body : Code} {s s' : LoopState} {p p' : Option Code} {r : List Ob} {a : Act} {w : World} (h : Fits E χ G ⟨env, .loop lenv ps asg body s p :: r⟩ a w) {l : Nat} (hl : G 0 = some (.fix l)) :
    ∃ (us : List Value) (fn : FuncId) (D : Nat), w.heap[l]? = some (.loop { state := s, pending := p, fn := fn, tmps := us.toArray, params := ps, assign := asg, body := body, defers := D }) ∧
      Fits E χ G ⟨env, .loop lenv ps asg body s' p' :: r⟩ a (w.putObj l (.loop { state := s', pending := p', fn := fn, tmps := us.toArray, params := ps, assign := asg, body := body, defers := D })) := by
  obtain ⟨l', us, fn, D, e1, e2, e3, e4⟩ := h.2.1 0 _ rfl
  rw [hl] at e1
  injection e1 with e1
  injection e1 with e1
  subst e1
  refine ⟨us, fn, D, e3, ?_⟩
  have hlt : l < w.heap.size := (Array.getElem?_eq_some_iff.1 e3).1
  have := h.set (o := 0) (χ' := χ) (G' := G) (w' := w.putObj l (.loop { state := s', pending := p', fn := fn, tmps := us.toArray, params := ps, assign := asg, body := body, defers := D })) (ob := .loop lenv ps asg body s' p') (by simp) rfl rfl rfl (by simp)
    (fun b hb hne => ⟨rfl, World.putObj_heap_other (by rintro rfl; exact hne e2)⟩) (fun _ _ => rfl) ⟨fun g hg => hg, fun n hd hh => ⟨n, hd, hh, Nat.le_refl _, fun _ => rfl⟩⟩
    ⟨l, us, fn, D, hl, e2, World.putObj_heap_same hlt, RTL.mono (w := w) (fun b hb hi => ⟨hi, World.putObj_heap_other (by rintro rfl; rw [e2] at hi; cases hi)⟩) (GGo.refl G) _ _ e4⟩
  simpa using this

/-- What was promised of a start, told of an end: the first m objects. -/
theorem fits_fin {χ0 χ : Nat → Color} {w0 w : World} {G0 G : Gh} {m : Nat} {rnd : Bool} {ro : Option Nat} {hgl : Gl χ0 w0} {env : List SV} {st : List Ob} {a : Act} (h : Fits ⟨χ0, w0, G0, { n := m, rnd := rnd }, [], ro, hgl⟩ χ G ⟨env, st⟩ a w) (hm : m ≤ st.length) (hin : (st.take m).all (Ob.inn m) = true) :
    ∃ G', RSt χ w G' (st.take m) ∧ Fr χ0 w0 χ w ∧ m ≤ (st.take m).length ∧ GLe m G0 G' ∧ (∀ o, (st.take m).length ≤ o → G' o = none) := by
  obtain ⟨k1, k2, k3, k4, k5, k6, k7⟩ := h
  refine ⟨dn (fun _ => 0) m G, fun o ob ho => ?_, k3, by simp; omega, fun o ho => ?_, fun o ho => ?_⟩
  · have hlt : o < m := by have := (List.getElem?_eq_some_iff.1 ho).1; simp at this; omega
    have hob : ob.inn m = true := by
      rw [List.all_eq_true] at hin
      exact hin ob (List.mem_of_getElem? ho)
    rw [List.getElem?_take, if_pos hlt] at ho
    refine RO.dn hlt hob ?_
    have := k2 o ob ho
    cases ob with
    | cells t cs => simp only [Ob.up]; rw [upL_zero]; exact this
    | loop env ps asg body s pend => simp only [Ob.up]; rw [upL_zero]; exact this
    | _ => exact this
  · obtain ⟨q1, q2⟩ := k6 o ho
    refine ⟨fun g hg => by simp [dn, ho, q1 g hg], fun n hd hh => ?_⟩
    obtain ⟨m', h', e1, e2, e3⟩ := q2 n hd hh
    exact ⟨m', h', by simp [dn, ho, e1], e2, e3⟩
  · have : ¬ o < m := by simp at ho; omega
    unfold dn
    rw [if_neg this]

/-- **A round's contract out of its walk.** -/
theorem roundOk_of {args : List SV} {env : List SV} {ps : Array Tmp} {asg body : Code} {pend : Option Code} {rest : List Ob} {Q : Res} (hl : args.length = ps.size)
    (h : vc P { n := rest.length + 1, rnd := true } asg ⟨setPs env ps.toList args, .loop env ps asg body .ready pend :: rest⟩ (roundBegin P (rest.length + 1) body Q)) :
    RoundOk P args (.loop env ps asg body .ready pend :: rest) Q := by
  refine ⟨env, ps, asg, body, pend, rest, rfl, hl, ?_⟩
  intro χ G w vs hgl hargs hst hG l us fn D e1 e2 e3 e4
  refine roundIn_of_wpIn (F := FW none) (FW_fn _ _) ?_
  have hrel : Rel ⟨χ, w, G, { n := rest.length + 1, rnd := true }, [], some l, hgl⟩ ⟨setPs env ps.toList args, .loop env ps asg body .ready pend :: rest⟩ { tmps := (ps.zip vs.toArray).foldl (fun tmps (t, a) => tmps.setIfInBounds t a) us.toArray, defers := [] } w :=
    ⟨χ, G, setPs_tmps e4 hargs, hst, ⟨rfl, rfl, rfl, Nat.le_refl _, fun b _ h => ⟨h, rfl⟩, fun b _ h => ⟨h, rfl⟩⟩, ⟨rfl, (fun h => (by cases h)), [], rfl, by simp, List.nodup_nil⟩, by simp, fun o _ => ⟨fun g h => h, fun n hd hh => ⟨n, hd, hh, Nat.le_refl _, fun _ => rfl⟩⟩, hG⟩
  refine wpIn_mono (vc_sound asg _ _ h _ _ _ rfl hrel) ?_
  rintro e a1 w1 ⟨σ1, hq, hr1⟩
  cases e with
  | normal =>
    unfold roundBegin at hq
    simp only at hq
    split at hq
    · rename_i env1 ps1 asg1 body1 p1 r1 hst1
      obtain ⟨χ1, G1, hf1⟩ := hr1
      have hf1 : Fits ⟨χ, w, G, { n := rest.length + 1, rnd := true }, [], some l, hgl⟩ χ1 G1 σ1 a1 w1 := hf1
      have hσ : σ1 = ⟨σ1.env, .loop env1 ps1 asg1 body1 .ready p1 :: r1⟩ := by rw [← hst1]
      rw [hσ] at hf1
      have hl1 : G1 0 = some (.fix l) := (hf1.2.2.2.2.2.1 0 (by simp)).1 l e1
      obtain ⟨us1, fn1, D1, b1, b2⟩ := hf1.loop (s' := .busy) (p' := p1) hl1
      refine ⟨_, run_beginRound b1 rfl, ?_⟩
      obtain ⟨hq⟩ := hq
      refine wpIn_mono (hq _ a1 _ rfl b2.rel) ?_
      rintro e2 a2 w2 ⟨σ2, hq2, hr2⟩
      unfold roundEnd at hq2
      split at hq2
      · rename_i env2 ps2 asg2 body2 s2 p2 r2 hst2
        obtain ⟨χ2, G2, hf2⟩ := hr2
        have hf2 : Fits ⟨χ, w, G, { n := rest.length + 1, rnd := true }, [], some l, hgl⟩ χ2 G2 σ2 a2 w2 := hf2
        have hσ2 : σ2 = ⟨σ2.env, .loop env2 ps2 asg2 body2 s2 p2 :: r2⟩ := by rw [← hst2]
        rw [hσ2] at hf2
        have hl2 : G2 0 = some (.fix l) := (hf2.2.2.2.2.2.1 0 (by simp)).1 l e1
        have fin : ∀ (jump : Option Code), roundFin (rest.length + 1) Q jump.isNone (.loop env2 ps2 asg2 body2 (if jump.isNone then .ready else .done) jump :: r2) →
            ∃ v w', (Instr.endRound l jump).run P w2 = .ok v w' ∧ ∃ r v' st' χ' G', Q r st' ∧ (Ending.returned v) = .returned v' ∧ RS χ' w' G' r v' ∧ RSt χ' w' G' st' ∧ Fr χ w χ' w' ∧ (Ob.loop env ps asg body .ready pend :: rest).length ≤ st'.length ∧ GLe (Ob.loop env ps asg body .ready pend :: rest).length G G' ∧ (∀ o, st'.length ≤ o → G' o = none) := by
          intro jump hfin
          obtain ⟨us2, fn2, D2, b3, b4⟩ := hf2.loop (s' := if jump.isNone then .ready else .done) (p' := jump) hl2
          unfold roundFin at hfin
          simp only [must_iff, Bool.and_eq_true, decide_eq_true_eq] at hfin
          obtain ⟨⟨h5, h6⟩, h7⟩ := hfin
          obtain ⟨G', c1, c2, c3, c4, c5⟩ := fits_fin b4 h5 h6
          exact ⟨_, _, run_endRound jump b3, vB jump.isNone, _, _, χ2, G', h7, rfl, rfl, c1, c2, c3, c4, c5⟩
        cases e2 with
        | normal => exact fin none hq2
        | ret => exact fin (some .ret) hq2
        | exit id => exact fin (some (.exit id)) hq2
        | _ => exact hq2.elim
      · exact hq2.elim
    · exact hq.elim
  | exit id => exact hq.elim
  | goto l => exact hq.elim
  | ret => exact hq.elim
  | panic ch => exact hq.elim
  | outgrown => exact hq.elim

/-- The mark of a range over a function. -/
theorem Fits.mark {χ : Nat → Color} {G : Gh} {σ : St} {a : Act} {w : World} (h : Fits E χ G σ a w) :
    Fits E (upF χ w.heap.size .mrk) G σ { a with defers := { target := .collected w.heap.size, args := #[] } :: a.defers } (w.alloc (.deferred (some []))) := by
  have h3 := h.2.2.1
  obtain ⟨_, _, pre0, p1, p2, _⟩ := h.2.2.2.1
  obtain ⟨k1, k2, k3, ⟨d1, d2, pre, d3, d4, d5⟩, k5, k6, k7⟩ := h.ext (χ' := upF χ w.heap.size .mrk) (w' := w.alloc (.deferred (some []))) rfl rfl rfl (by simp) (fun b hlt => ⟨upF_ne _ _ (by omega), Below.heap_alloc w _ b hlt⟩)
  have hpre : pre = pre0 := by
    rw [p1] at d3
    exact (List.append_cancel_right d3).symm
  subst hpre
  refine ⟨k1, k2, k3, ⟨d1, d2, { target := .collected w.heap.size, args := #[] } :: pre, by rw [List.cons_append, ← d3], fun d hd => ?_, List.nodup_cons.2 ⟨fun hm => ?_, d5⟩⟩, k5, k6, k7⟩
  · rcases List.mem_cons.1 hd with rfl | hd
    · exact ⟨_, rfl, upF_same _ _ _, h3.size, World.alloc_heap_new w _⟩
    · exact d4 d hd
  · obtain ⟨r, e1, _, _, e4⟩ := p2 _ hm
    have := (Array.getElem?_eq_some_iff.1 e4).1
    injection e1 with e1
    injection e1 with e1
    omega

/-- A loop's record is laid. -/
theorem Fits.newLoop {χ : Nat → Color} {G : Gh} {env lenv : List SV} {st : List Ob} {a : Act} {w : World} {us : List Value} (ps : Array Tmp) (asg body : Code) (fn : FuncId) (D : Nat) (h : Fits E χ G ⟨env, st⟩ a w) (hr : RTL χ w G lenv us) :
    Fits E (upF χ w.heap.size (.own st.length)) (upF G st.length (some (.fix w.heap.size))) ⟨env, st ++ [.loop lenv ps asg body .ready none]⟩ a (w.alloc (.loop { state := .ready, pending := none, fn := fn, tmps := us.toArray, params := ps, assign := asg, body := body, defers := D })) ∧
      GGo G (upF G st.length (some (.fix w.heap.size))) ∧ Keep χ w (upF χ w.heap.size (.own st.length)) (w.alloc (.loop { state := .ready, pending := none, fn := fn, tmps := us.toArray, params := ps, assign := asg, body := body, defers := D })) := by
  have hk : Keep χ w (upF χ w.heap.size (.own st.length)) (w.alloc (.loop { state := .ready, pending := none, fn := fn, tmps := us.toArray, params := ps, assign := asg, body := body, defers := D })) := fun b hlt hi =>
    ⟨by rw [upF_ne _ _ (by omega)]; exact hi, Below.heap_alloc w _ b hlt⟩
  have h7 := h.2.2.2.2.2.2 st.length (Nat.le_refl _)
  have hg : GGo G (upF G st.length (some (.fix w.heap.size))) := fun o' => by
    by_cases e : o' = st.length
    · subst e; rw [h7]; exact ⟨fun g hg => (by cases hg), fun n hd hh => (by cases hh)⟩
    · rw [upF_ne _ _ e]; exact ⟨fun g hg => hg, fun n hd hh => ⟨n, hd, hh, Nat.le_refl _, fun _ => rfl⟩⟩
  exact ⟨h.new rfl rfl rfl (by simp) (fun b hlt => ⟨upF_ne _ _ (by omega), Below.heap_alloc w _ b hlt⟩) (fun o' ho' => upF_ne _ _ ho')
    ⟨w.heap.size, us, fn, D, upF_same _ _ _, upF_same _ _ _, heap_alloc_new w _, RTL.mono hk hg _ _ hr⟩, hg, hk⟩

/-- Behind the function that was ranged over: the jump that a round has left. -/
def rangeK (Q : Exit → St → Prop) (env : List SV) (st : List Ob) (o : Nat) : Prop :=
  match st[o]? with
  | some (.loop _ _ _ _ s pend) => s ≠ .busy ∧ match pend with
    | none => Q .normal ⟨env, st.set o .gone⟩
    | some .ret => Q .ret ⟨env, st.set o .gone⟩
    | some (.exit id) => Q (.exit id) ⟨env, st.set o .gone⟩
    | _ => False
  | _ => False

/-- **A range over a function**: by the contract of the function that is ranged over, called with yield. -/
theorem hand_range {P : Program} {k : Kx} {g : Operand} {ps : Array Tmp} {asg body : Code} {env : List SV} {st : List Ob} {Q : Exit → St → Prop} {f : FuncId} {caps : List SV} (ids : List Nat) {args' : List SV} {obs : List Ob} {Qc : Res}
    (h : CallOk P f args' obs Qc) (hfn : isFn P f) (hg : St.ev ⟨env, st⟩ g = .clo f caps) (hrnd : k.rnd = false)
    (hn : decide ids.Nodup = true) (hi : (ids.all fun i => decide (i < st.length + 1)) = true)
    (ha : .yld st.length :: caps = SV.rnL (fun j => ids.getD j 0) args') (hb : SV.inL ids.length args' = true)
    (ho : ids.map (fun i => (st ++ [Ob.loop env ps asg body .ready none]).getD i .gone) = obs.map (Ob.rn fun j => ids.getD j 0)) (hob : obs.all (Ob.inn ids.length) = true)
    (kont : ∀ r st', Qc r st' → rangeK Q env (backSt ids (st ++ [Ob.loop env ps asg body .ready none]) st') st.length) : Hand P k (.rangeFunc g ps asg body) ⟨env, st⟩ Q := by
  refine ⟨fun E a w hE hr => ?_⟩
  obtain ⟨χ, G, hf⟩ := hr
  have hf : Fits E χ G ⟨env, st⟩ a w := hf
  have hro : E.ro = none := hf.2.2.2.1.ro (by rw [hE]; exact hrnd)
  refine wpIn_rangeFunc fun fn _ => ?_
  have hv := RS_ev (σ := ⟨env, st⟩) hf.1 g
  rw [hg] at hv
  obtain ⟨us, hv, hcaps⟩ := hv
  have hm := hf.mark
  have hk1 : Keep χ w (upF χ w.heap.size .mrk) (w.alloc (.deferred (some []))) := fun b hlt hi => ⟨by rw [upF_ne _ _ (by omega)]; exact hi, Below.heap_alloc w _ b hlt⟩
  obtain ⟨hl, hg1, hk2⟩ := hm.newLoop (us := a.tmps.toList) ps asg body fn w.heap.size hm.1
  have hsz : (w.alloc (.deferred (some []))).heap.size = w.heap.size + 1 := by simp
  rw [hsz] at hl hg1 hk2
  refine ⟨w.heap.size + 1, [{ target := .collected w.heap.size, args := #[] }], _, { target := .fn (.func f) us.toArray, args := #[.func (.yield (w.heap.size + 1)) #[] #[]] }, _, f, #[.func (.yield (w.heap.size + 1)) #[] #[]] ++ us.toArray, _, by
    rw [show (FW E.ro).round = none from hro]
    exact run_enterLoop_outer fn a.tmps ps asg body, by
    have hc : ∀ v, a.eval (.const v) = v := fun _ => rfl
    simp [resolve, rangeCall, hv, Deferred.ofValue, hc]
    rfl, fun _ _ => FW_fn _ _, by
    show (callFunc f (#[.func (.yield (w.heap.size + 1)) #[] #[]] ++ us.toArray)).run P _ = _
    exact callFunc_run hfn, fun e => (by cases e), ?_⟩
  refine FW_calls.2 ?_
  have hyl : RS (upF (upF χ w.heap.size .mrk) (w.heap.size + 1) (.own st.length)) ((w.alloc (.deferred (some []))).alloc (.loop { state := .ready, pending := none, fn := fn, tmps := a.tmps.toList.toArray, params := ps, assign := asg, body := body, defers := w.heap.size })) (upF G st.length (some (.fix (w.heap.size + 1)))) (.yld st.length) (.func (.yield (w.heap.size + 1)) #[] #[]) :=
    ⟨_, upF_same _ _ _, rfl⟩
  have hargs : RTL (upF (upF χ w.heap.size .mrk) (w.heap.size + 1) (.own st.length)) ((w.alloc (.deferred (some []))).alloc (.loop { state := .ready, pending := none, fn := fn, tmps := a.tmps.toList.toArray, params := ps, assign := asg, body := body, defers := w.heap.size })) (upF G st.length (some (.fix (w.heap.size + 1)))) (.yld st.length :: caps) (.func (.yield (w.heap.size + 1)) #[] #[] :: us) :=
    ⟨_, us, rfl, hyl, RTL.mono hk2 hg1 _ _ (RTL.mono hk1 (GGo.refl G) _ _ hcaps)⟩
  obtain ⟨χc, Gc, hgl, g1, g2, g3, _, g4⟩ := obj_step hl hargs (of_decide_eq_true hn) (fun i h' => by have := of_decide_eq_true (List.all_eq_true.1 hi i h'); simpa using this) ha hb ho hob
  have hcall := (h χc Gc _ _ hgl g1 g2 g3).calls hfn
  have e0 : (Value.func (.yield (w.heap.size + 1)) #[] #[] :: us).toArray = #[.func (.yield (w.heap.size + 1)) #[] #[]] ++ us.toArray := by simp
  rw [e0] at hcall
  refine Calls.mono (R := fun e w' => ∃ r v st' χ' G', Qc r st' ∧ e = .returned v ∧ RS χ' w' G' r v ∧ RSt χ' w' G' st' ∧ Fr χc _ χ' w' ∧ obs.length ≤ st'.length ∧ GLe obs.length Gc G' ∧ (∀ o, st'.length ≤ o → G' o = none)) hcall ?_
  rintro e w' ⟨r, v, st', χ1, G1, hQ, rfl, hr, hst1, hfr, hlen, hgle, hnone⟩
  obtain ⟨χ2, G2, q1, q2, q3⟩ := g4 r v st' χ1 G1 w' hr hst1 hfr hlen hgle hnone
  have hK := kont r st' hQ
  unfold rangeK at hK
  split at hK
  · rename_i lenv ps2 asg2 body2 s pend hob2
    obtain ⟨hs, hK⟩ := hK
    obtain ⟨l2, us2, fn2, D2, e1, e2, e3, e4⟩ := q1.2.1 _ _ hob2
    have hG2 : G2 st.length = some (.fix (w.heap.size + 1)) := (q3 st.length).1 _ (upF_same _ _ _)
    rw [hG2] at e1
    injection e1 with e1
    injection e1 with e1
    subst e1
    refine ⟨pend, _, run_endLoop e3 hs, ?_⟩
    have hlt2 := (List.getElem?_eq_some_iff.1 hob2).1
    have hgone : Fits E χ2 G2 ⟨env, (backSt ids (st ++ [Ob.loop env ps asg body .ready none]) st').set st.length .gone⟩ { a with defers := { target := .collected w.heap.size, args := #[] } :: a.defers }
        (w'.putObj (w.heap.size + 1) (.loop { state := .exhausted, pending := pend, fn := fn2, tmps := us2.toArray, params := ps2, assign := asg2, body := body2, defers := D2 })) :=
      q1.set hlt2 rfl rfl rfl (by simp) (fun b hb hne => ⟨rfl, World.putObj_heap_other (by rintro rfl; exact hne e2)⟩) (fun _ _ => rfl) ⟨fun g hg => hg, fun n hd hh => ⟨n, hd, hh, Nat.le_refl _, fun _ => rfl⟩⟩ trivial
    cases pend with
    | none => exact ⟨_, hK, hgone.rel⟩
    | some c =>
      cases c with
      | ret => exact wpIn_ret ⟨_, hK, hgone.rel⟩
      | exit id => exact wpIn_exit ⟨_, hK, hgone.rel⟩
      | _ => exact hK.elim
  · exact hK.elim
end
end Go.Sy
/- Functions of the library that have no body. -/
set_option linter.all false
set_option maxHeartbeats 4000000
set_option maxRecDepth 100000
namespace Go.Sy
open Go Go.RowKit

/-- The objects written otherwise, at a barrier. -/
theorem rest_st {P : Program} {k : Kx} {c : Code} {env : List SV} {st st' : List Ob} {Q : Exit → St → Prop} (h : st = st') (hk : Rest P k c ⟨env, st'⟩ Q) : Rest P k c ⟨env, st⟩ Q := h ▸ hk
theorem rest_env {P : Program} {k : Kx} {c : Code} {env env' : List SV} {st : List Ob} {Q : Exit → St → Prop} (h : env = env') (hk : Rest P k c ⟨env', st⟩ Q) : Rest P k c ⟨env, st⟩ Q := h ▸ hk

/-- Two ways that come together: what stands behind is walked once. -/
theorem rest_join {P : Program} {k : Kx} {s r : Code} {σ : St} {Q : Exit → St → Prop} {α : Type} (n : Nat) (inv : α → Prop) (sl : α → List (Nat × SV)) (st : α → List Ob)
    (hi : ∀ x, k.n ≤ (st x).length ∧ SV.inL (st x).length ((sl x).map (·.2)) = true ∧ (st x).all (Ob.inn (st x).length) = true)
    (first : vc P k s σ fun e σ' => match e with
      | .normal => ∃ x f, inv x ∧ σ'.env.length = n ∧ holds f σ'.env (sl x) ∧ σ'.st.take (st x).length = upSt f 0 (st x) ∧ (∀ o, o < k.n → f o = 0)
      | e => Q e σ')
    (tail : ∀ x, inv x → Rest P k r ⟨mkEnv n (sl x), st x⟩ Q) (hdi : SV.inL k.n k.dss = true := by rfl) : Rest P k (.seq s r) σ Q := by
  refine ⟨fun E a w hE hr => wpIn_seq (wpIn_mono (vc_sound s σ _ first E a w hE hr) ?_)⟩
  rintro e a' w' ⟨σ', hq, hr'⟩
  cases e with
  | normal =>
    obtain ⟨x, f, h1, h2, h3, h4, h5⟩ := hq
    obtain ⟨tail⟩ := tail x h1
    exact tail E a' w' hE (weaken f hE hr' h2 h3 h4 (hi x).1 h5 hdi (hi x).2.1 (hi x).2.2)
  | exit id => exact ⟨σ', hq, hr'⟩
  | goto l => exact ⟨σ', hq, hr'⟩
  | ret => exact ⟨σ', hq, hr'⟩
  | panic ch => exact ⟨σ', hq, hr'⟩
  | outgrown => exact ⟨σ', hq, hr'⟩

/-- A loop's ways out that come together. -/
theorem hand_exit {P : Program} {k : Kx} {c : Code} {σ : St} {Q : Exit → St → Prop} {α : Type} (id0 n : Nat) (inv : α → Prop) (sl : α → List (Nat × SV)) (st : α → List Ob)
    (hi : ∀ x, k.n ≤ (st x).length ∧ SV.inL (st x).length ((sl x).map (·.2)) = true ∧ (st x).all (Ob.inn (st x).length) = true)
    (first : Hand P k c σ fun e σ' => match e with
      | .exit id => if id = id0 then ∃ x f, inv x ∧ σ'.env.length = n ∧ holds f σ'.env (sl x) ∧ σ'.st.take (st x).length = upSt f 0 (st x) ∧ (∀ o, o < k.n → f o = 0) else Q (.exit id) σ'
      | e => Q e σ')
    (tail : ∀ x, inv x → Q (.exit id0) ⟨mkEnv n (sl x), st x⟩) (hdi : SV.inL k.n k.dss = true := by rfl) : Hand P k c σ Q := by
  obtain ⟨first⟩ := first
  refine ⟨fun E a w hE hr => wpIn_mono (first E a w hE hr) ?_⟩
  rintro e a' w' ⟨σ', hq, hr'⟩
  cases e with
  | exit id =>
    simp only at hq
    split at hq
    · rename_i e
      subst e
      obtain ⟨x, f, h1, h2, h3, h4, h5⟩ := hq
      exact ⟨_, tail x h1, weaken f hE hr' h2 h3 h4 (hi x).1 h5 hdi (hi x).2.1 (hi x).2.2⟩
    · exact ⟨σ', hq, hr'⟩
  | normal => exact ⟨σ', hq, hr'⟩
  | goto l => exact ⟨σ', hq, hr'⟩
  | ret => exact ⟨σ', hq, hr'⟩
  | panic ch => exact ⟨σ', hq, hr'⟩
  | outgrown => exact ⟨σ', hq, hr'⟩

section
variable {P : Program} {χ : Nat → Color} {w : World}

theorem run_bytesOf {nl : Bool} {l : List Int} {v : Value} (h : RP χ w (.list 1 nl (u8s l)) v) : (Extern.Bytes.bytesOf v).run P w = .ok ⟨(Lib.bytesOf l).toArray⟩ w := by
  obtain ⟨A, c, us, rfl, h1, h2, h3, h4, h5, h6⟩ := h
  have hu := RF_u8 h5
  subst hu
  rw [u8s_len]
  cases A with
  | none =>
    have e := h3 rfl
    subst e
    have : l = [] := by simpa [u8s_len] using h1
    subst this
    rfl
  | some ad =>
    have := Lib.run_loadBytesX (P := P) w l ad .empty (fun j x hj => by
      obtain ⟨ad', e', hc⟩ := h6 j (.int .u8 x) (by simp [hj])
      injection e' with e'
      subst e'
      exact hc.2)
    show (Extern.Bytes.loadBytes ad l.length .empty).run P w = _
    rw [this]
    simp [ByteArray.empty, ByteArray.emptyWithCapacity]
    rfl

def cmpI (a b : List Int) : Int := Lib.compareBytes (Lib.bytesOf a) (Lib.bytesOf b)

/-- internal/bytealg.Compare. -/
theorem ext_compare {f : FuncId} {fn : Func} (hf : P.funcs[f]? = some fn) (hname : (fn.name == "runtime.NumGoroutine") = false)
    (hb : fn.body.isNone = true) (hn : Extern.findNext fn = none) (he : Extern.find fn = some Extern.BytealgCompare.compare) (n1 n2 : Bool) (a b : List Int) :
    CallOk P f [bts n1 a, bts n2 b] [] fun r st' => st' = [] ∧ r = vI .i64 (cmpI a b) := by
  intro χ G w vs _ hv hst hG
  obtain ⟨u1, r1, rfl, h1, u2, r2, rfl, h2, h3⟩ := hv
  have h3 : r2 = [] := h3
  subst h3
  refine .inr ⟨.int .i64 (cmpI a b), w, ?_, vI .i64 (cmpI a b), _, [], χ, G, ⟨rfl, rfl⟩, rfl, rfl, fun o ob ho => by simp at ho, ⟨rfl, rfl, rfl, Nat.le_refl _, fun b _ h => ⟨h, rfl⟩, fun b _ h => ⟨h, rfl⟩⟩, Nat.le_refl _, fun o ho => by simp at ho, fun o _ => hG o (Nat.zero_le _)⟩
  rw [run_callFunc_extern hf hname hb hn he]
  have e1 := run_bytesOf (P := P) h1
  have e2 := run_bytesOf (P := P) h2
  have : (Extern.BytealgCompare.compare #[u1, u2]).run P w = .ok (.int .i64 (cmpI a b)) w := by
    change Sem.run P (do pure (goInt (Extern.BytealgCompare.cmp (← Extern.Bytes.bytesOf u1) (← Extern.Bytes.bytesOf u2)))) w = _
    simp only [Sem.run_bind, Sem.run_pure, e1, e2, Result.andThen]
    rw [Lib.cmp_eq]
    rfl
  rw [show [u1, u2].toArray = #[u1, u2] from rfl, this]
  rfl
end
end Go.Sy
/- States told otherwise at a barrier: objects dropped, versions told anew, a row of one's own told as an array; nothing in a variable as a row that is empty yet. -/
set_option linter.all false
set_option maxHeartbeats 4000000
namespace Go.Sy
open Go.RowKit

theorem Rel.drop {E : Ent} {env : List SV} {st : List Ob} {a : Act} {w : World} (o : Nat) (h : Rel E ⟨env, st⟩ a w) : Rel E ⟨env, st.set o .gone⟩ a w := by
  obtain ⟨χ, G, h1, h2, h3, h4, h5, h6, h7⟩ := h
  refine ⟨χ, G, h1, fun o' ob ho => ?_, h3, h4, by simpa using h5, h6, fun o' ho => h7 o' (by simpa using ho)⟩
  simp only [List.getElem?_set] at ho
  split at ho
  · split at ho
    · cases ho; exact trivial
    · cases ho
  · exact h2 o' ob ho

theorem rest_drop {P : Program} {k : Kx} {c : Code} {env : List SV} {st : List Ob} {Q : Exit → St → Prop} (o : Nat) (h : Rest P k c ⟨env, st.set o .gone⟩ Q) : Rest P k c ⟨env, st⟩ Q := by
  obtain ⟨h⟩ := h
  exact ⟨fun E a w hE hr => h E a w hE (hr.drop o)⟩

/-- Versions told anew. -/
theorem rest_norm {P : Program} {k : Kx} {c : Code} {σ : St} {Q : Exit → St → Prop} (n : Nat) (f : Nat → Nat) (sl : List (Nat × SV)) (st : List Ob) (hn : σ.env.length = n) (hl : holds f σ.env sl) (hst : σ.st.take st.length = upSt f 0 st)
    (hi : k.n ≤ st.length ∧ SV.inL st.length (sl.map (·.2)) = true ∧ st.all (Ob.inn st.length) = true) (hf : ∀ o, o < k.n → f o = 0) (h : Rest P k c ⟨mkEnv n sl, st⟩ Q) (hdi : SV.inL k.n k.dss = true := by rfl) : Rest P k c σ Q := by
  obtain ⟨h⟩ := h
  exact ⟨fun E a w hE hr => h E a w hE (weaken f hE hr hn hl hst hi.1 hf hdi hi.2.1 hi.2.2)⟩

theorem Rel.row {E : Ent} {env : List SV} {st : List Ob} {n e : Nat} {xs : List PV} {a : Act} {w : World} (h : Rel E ⟨env, st ++ [.vec n e 1 false xs]⟩ a w) (d : Nat) (hd : env.getD d .dead = .vref st.length n)
    (l : List (Nat × SV)) (hl : holds (fun _ => 0) env l) (hin : SV.inL st.length (l.map (·.2)) = true) (hst : st.all (Ob.inn st.length) = true) (hk : E.k.n ≤ st.length) (hdi : SV.inL E.k.n E.k.dss = true) (hx : xs.flatMap PV.cells = xs) :
    Rel E ⟨(mkEnv env.length l).set d (.sref st.length 0 xs.length), st ++ [.row e xs.length xs]⟩ a w := by
  obtain ⟨χ, G, h1, h2, h3, h4, h5, h6, h7⟩ := h
  have hlast := h2 st.length (.vec n e 1 false xs) (by simp)
  obtain ⟨hd', us, g1, g2, g3, g4, g5⟩ := hlast
  have hu := h1.get d
  rw [hd] at hu
  obtain ⟨_, m, hd2, e1, _, e3⟩ := hu
  rw [g1] at e1
  cases e1
  have hval := e3 rfl
  rcases g2.2 with ⟨rfl, _⟩ | ⟨g, cap, cur, rfl, _, hg, hnc, hm, hcs, htk⟩
  · exact absurd (g4.2 rfl) (by simp)
  have hul : us.length = xs.length := by rw [g3.len, Nat.mul_one]
  have hus : RL χ w xs us := by have := RF_flat g3; rwa [hx] at this
  have hcur : cur.toList = us ++ cur.toList.drop (xs.length * 1) := by rw [← htk, List.take_append_drop]
  have hk1 : ∀ o, o < E.k.n → (fun _ : Nat => 0) o = 0 := fun _ _ => rfl
  have hcol : χ g = .own st.length := g5 g rfl
  -- the objects ahead alone
  obtain ⟨G1, hG1⟩ : ∃ G1, G1 = dn (fun _ => 0) st.length G := ⟨_, rfl⟩
  have env1 : RTL χ w G1 (mkEnv env.length l) a.tmps.toList := by rw [hG1]; exact mkEnv_ok h1 l hl hin
  have up0 : ∀ ob : Ob, ∀ o, ob.up (fun _ => 0) o = ob := fun ob o => by
    cases ob <;> simp [Ob.up, upL_zero]
  have obs1 : ∀ o ob, st[o]? = some ob → RO χ w G1 o ob := fun o ob ho => by
    have hlt : o < st.length := (List.getElem?_eq_some_iff.1 ho).1
    have hin' : ob.inn st.length = true := by
      rw [List.all_eq_true] at hst
      exact hst ob (List.mem_of_getElem? ho)
    rw [hG1]
    refine RO.dn hlt hin' ?_
    rw [up0]
    exact h2 o ob (by rw [List.getElem?_append_left hlt]; exact ho)
  have gm : G1 st.length = none := by rw [hG1]; simp [dn]
  have go : GGo G1 (upF G1 st.length (some (.fix g))) := fun o' => by
    by_cases e : o' = st.length
    · subst e; rw [gm]; exact ⟨fun g hg => (by cases hg), fun n hd hh => (by cases hh)⟩
    · rw [upF_ne _ _ e]; exact ⟨fun g hg => hg, fun n hd hh => ⟨n, hd, hh, Nat.le_refl _, fun _ => rfl⟩⟩
  have hkp : Keep χ w χ w := Keep.refl χ w
  refine ⟨χ, upF G1 st.length (some (.fix g)), ?_, ?_, h3, ?_, by simp; omega, ?_, ?_⟩
  · exact (RTL_set_any (RTL.mono hkp go _ _ env1) d (by rw [hval]; exact ⟨g, cap, upF_same _ _ _, rfl, hnc, hm⟩))
  · intro o ob ho
    by_cases hlt : o < st.length
    · rw [List.getElem?_append_left hlt] at ho
      exact RO.mono hkp go (upF_ne _ _ (by omega)) (fun b _ h => ⟨h, rfl⟩) (obs1 o ob ho)
    · have ho' : o = st.length := by
        have := (List.getElem?_eq_some_iff.1 ho).1
        simp at this; omega
      subst ho'
      simp only [List.getElem?_append_right (Nat.le_refl _), Nat.sub_self, List.getElem?_cons_zero, Option.some.injEq] at ho
      subst ho
      refine ⟨g, us, cur.toList.drop (xs.length * 1), upF_same _ _ _, hcol, ?_, by simp [hul], by simpa using hus⟩
      rw [hg, ← hcur]
  · have := h4.dn (f := fun _ => 0) (m := st.length) (fun _ _ => rfl) hdi hk
    rw [← hG1] at this
    exact this.mono hkp go (fun b _ h => ⟨h, rfl⟩)
  · intro o ho
    obtain ⟨k1, k2⟩ := h6 o ho
    have hne : o ≠ st.length := by omega
    have e1 : upF G1 st.length (some (.fix g)) o = G o ∨ (∃ n h, G o = some (.ver n h) ∧ upF G1 st.length (some (.fix g)) o = some (.ver n h)) := by
      rw [upF_ne _ _ hne, hG1]
      have hlt : o < st.length := by omega
      cases hGo : G o with
      | none => exact .inl (by simp [dn, hGo])
      | some x => cases x with
        | fix g => exact .inl (by simp [dn, hGo, hlt])
        | ver n h => exact .inr ⟨n, h, rfl, by simp [dn, hGo, hlt]⟩
    refine ⟨fun g' hg' => ?_, fun n' hd' hh => ?_⟩
    · have := k1 g' hg'
      rcases e1 with e1 | ⟨n, h, e1, e2⟩
      · rw [e1]; exact this
      · rw [this] at e1; cases e1
    · obtain ⟨m', h', f1, f2, f3⟩ := k2 n' hd' hh
      rcases e1 with e1 | ⟨n, h, e1, e2⟩
      · exact ⟨m', h', by rw [e1]; exact f1, f2, f3⟩
      · rw [f1] at e1; cases e1; exact ⟨m', h', e2, f2, f3⟩
  · intro o ho
    simp only [List.length_append, List.length_cons, List.length_nil] at ho
    rw [upF_ne _ _ (by omega), hG1]
    simp [dn]
    intro h
    omega

/-- A row of one's own told as an array, of which a slot holds the slice. -/
theorem rest_row {P : Program} {k : Kx} {c : Code} {env : List SV} {st : List Ob} {n e : Nat} {xs : List PV} {Q : Exit → St → Prop} (d : Nat) (l : List (Nat × SV)) (hd : env.getD d .dead = .vref st.length n)
    (hl : holds (fun _ => 0) env l) (hin : SV.inL st.length (l.map (·.2)) = true) (hst : st.all (Ob.inn st.length) = true) (hk : k.n ≤ st.length) (hx : xs.flatMap PV.cells = xs)
    (h : Rest P k c ⟨(mkEnv env.length l).set d (.sref st.length 0 xs.length), st ++ [.row e xs.length xs]⟩ Q) (hdi : SV.inL k.n k.dss = true := by rfl) : Rest P k c ⟨env, st ++ [.vec n e 1 false xs]⟩ Q := by
  obtain ⟨h⟩ := h
  refine ⟨fun E a w hE hr => h E a w hE ?_⟩
  exact hr.row d hd l hl hin hst (by rw [hE]; exact hk) (by rw [hE]; exact hdi) hx

theorem Rel.ghostc {E : Ent} {env : List SV} {st : List Ob} {a : Act} {w : World} (h : Rel E ⟨env, st⟩ a w) (o : Nat) {t : TypeId} {sz0 : Nat} (e sz : Nat) (ho : st[o]? = some (.cells t [.pure (.list sz0 true [])])) :
    Rel E ⟨env, st.set o (.cells t [.vref st.length 0]) ++ [.vec 0 e sz true []]⟩ a w := by
  obtain ⟨χ, G, hf⟩ := h
  have hf : Fits E χ G ⟨env, st⟩ a w := hf
  have hlt : o < st.length := (List.getElem?_eq_some_iff.1 ho).1
  obtain ⟨χ', g1, g2⟩ := hf.newVec (e := e) (sz := sz) (w' := w) (hd := .slice none 0 0) (nl := true) (xs := []) (us := []) rfl rfl rfl (Nat.le_refl _) (fun _ _ => rfl) ⟨by simp, .inl ⟨rfl, rfl⟩⟩ rfl (by simp) (fun g hg => by cases hg)
  have ho1 : (st ++ [Ob.vec 0 e sz true []])[o]? = some (.cells t [.pure (.list sz0 true [])]) := by rw [List.getElem?_append_left hlt]; exact ho
  obtain ⟨g, us, m1, m2, m3, u, r, rfl, m4, m5, m6⟩ := g1.2.1 o _ ho1
  obtain ⟨A, c, us', h1, h2, h3, h4, h5, h6, h7⟩ := m5
  have hA : A = none := h5.1 rfl
  have hc := h4 hA
  subst hA hc
  have e1 : st.set o (.cells t [.vref st.length 0]) ++ [Ob.vec 0 e sz true []] = (st ++ [Ob.vec 0 e sz true []]).set o (.cells t [.vref st.length 0]) := by rw [List.set_append_left _ _ hlt]
  rw [e1]
  exact (g1.set (ob := .cells t [.vref st.length 0]) (w' := w) (χ' := χ') (G' := _) (by simp; omega) rfl rfl rfl (Nat.le_refl _) (fun b hb hne => ⟨rfl, rfl⟩) (fun _ _ => rfl) ⟨fun g hg => hg, fun n hd hh => ⟨n, hd, hh, Nat.le_refl _, fun _ => rfl⟩⟩ ⟨g, _, m1, m2, m3, u, r, rfl, m4, by rw [h1]; exact g2, m6⟩).rel

theorem Rel.ghostk {E : Ent} {env : List SV} {st : List Ob} {a : Act} {w : World} (h : Rel E ⟨env, st⟩ a w) (o j : Nat) {t : TypeId} {cs : List SV} {sz0 : Nat} (e sz : Nat) (ho : st[o]? = some (.cells t cs)) (hj : cs[j]? = some (.pure (.list sz0 true []))) :
    Rel E ⟨env, st.set o (.cells t (cs.set j (.vref st.length 0))) ++ [.vec 0 e sz true []]⟩ a w := by
  obtain ⟨χ, G, hf⟩ := h
  have hf : Fits E χ G ⟨env, st⟩ a w := hf
  have hlt : o < st.length := (List.getElem?_eq_some_iff.1 ho).1
  obtain ⟨χ', g1, g2⟩ := hf.newVec (e := e) (sz := sz) (w' := w) (hd := .slice none 0 0) (nl := true) (xs := []) (us := []) rfl rfl rfl (Nat.le_refl _) (fun _ _ => rfl) ⟨by simp, .inl ⟨rfl, rfl⟩⟩ rfl (by simp) (fun g hg => by cases hg)
  have ho1 : (st ++ [Ob.vec 0 e sz true []])[o]? = some (.cells t cs) := by rw [List.getElem?_append_left hlt]; exact ho
  obtain ⟨g, us, m1, m2, m3, m4⟩ := g1.2.1 o _ ho1
  obtain ⟨u, hu, m5, m6⟩ := m4.get hj
  obtain ⟨A, c, us', h1, h2, h3, h4, h5, h6, h7⟩ := m5
  have hA : A = none := h5.1 rfl
  have hc := h4 hA
  subst hA hc
  have e1 : st.set o (.cells t (cs.set j (.vref st.length 0))) ++ [Ob.vec 0 e sz true []] = (st ++ [Ob.vec 0 e sz true []]).set o (.cells t (cs.set j (.vref st.length 0))) := by rw [List.set_append_left _ _ hlt]
  rw [e1]
  have hus : us.set j u = us := by
    apply List.ext_getElem?
    intro i
    rw [List.getElem?_set]
    split
    · rename_i e; subst e
      split
      · exact hu.symm
      · rename_i hge; rw [List.getElem?_eq_none (by omega)]
    · rfl
  have hset : RSL χ' w (upF G st.length (some (.ver 0 (.slice none 0 0)))) (cs.set j (.vref st.length 0)) us := by
    have := RSL.setAt (χ := χ') (w := w) (G := upF G st.length (some (.ver 0 (.slice none 0 0)))) (vs := [.vref st.length 0]) (ws := [u]) ⟨_, [], rfl, m6, by rw [h1]; exact g2, rfl⟩ j m4
    simp only [setAt] at this
    rw [hus] at this
    exact this
  exact (g1.set (ob := .cells t (cs.set j (.vref st.length 0))) (w' := w) (χ' := χ') (G' := _) (by simp; omega) rfl rfl rfl (Nat.le_refl _) (fun b hb hne => ⟨rfl, rfl⟩) (fun _ _ => rfl) ⟨fun g hg => hg, fun n hd hh => ⟨n, hd, hh, Nat.le_refl _, fun _ => rfl⟩⟩ ⟨g, us, m1, m2, m3, hset⟩).rel

/-- Nothing in one part of a variable, as a row that is empty yet. -/
theorem rest_ghostk {P : Program} {k : Kx} {c : Code} {env : List SV} {st : List Ob} {Q : Exit → St → Prop} (o j : Nat) {t : TypeId} {cs : List SV} {sz0 : Nat} (e sz : Nat) (ho : st[o]? = some (.cells t cs)) (hj : cs[j]? = some (.pure (.list sz0 true [])))
    (h : Rest P k c ⟨env, st.set o (.cells t (cs.set j (.vref st.length 0))) ++ [.vec 0 e sz true []]⟩ Q) : Rest P k c ⟨env, st⟩ Q := by
  obtain ⟨h⟩ := h
  exact ⟨fun E a w hE hr => h E a w hE (hr.ghostk o j e sz ho hj)⟩

theorem RP_nil {χ : Nat → Color} {w : World} {a b : Nat} {u : Value} (h : RP χ w (.list a true []) u) : RP χ w (.list b true []) u := by
  obtain ⟨A, c, us, h1, h2, h3, h4, h5, h6, h7⟩ := h
  exact ⟨A, c, us, h1, h2, h3, h4, h5, h6, h7⟩
/-- Nothing, of whatever size. -/
def nilEq : SV → SV → Bool
  | .pure (.list _ true []), .pure (.list _ true []) => true
  | _, _ => false
def nilTo : List SV → List (Option Nat) → List SV
  | .pure (.list _ true []) :: r, some n :: l => .pure (.list n true []) :: nilTo r l
  | s :: r, _ :: l => s :: nilTo r l
  | r, [] => r
  | [], _ => []
theorem nilTo_ok {χ : Nat → Color} {w : World} {G : Gh} : ∀ {cs : List SV} (l : List (Option Nat)) {us : List Value}, RSL χ w G cs us → RSL χ w G (nilTo cs l) us := by
  intro cs l
  induction cs, l using nilTo.induct with
  | case1 r a n l ih => 
    rintro us ⟨u, t, e, h1, h2, h3⟩
    rw [nilTo]
    exact ⟨u, t, e, h1, RP_nil h2, ih h3⟩
  | case2 s r o l hne ih =>
    rintro us ⟨u, t, e, h1, h2, h3⟩
    rw [nilTo]
    · exact ⟨u, t, e, h1, h2, ih h3⟩
    · exact hne
  | case3 r => intro us h; rw [nilTo]; exact h
  | case4 l hl => intro us h; unfold nilTo; split <;> first | exact h | contradiction | simp_all
/-- Nothing in parts of a variable, told with its sizes. -/
theorem rest_nils {P : Program} {k : Kx} {c : Code} {env : List SV} {st : List Ob} {Q : Exit → St → Prop} (o : Nat) (l : List (Option Nat)) {t : TypeId} {cs : List SV} (ho : st[o]? = some (.cells t cs))
    (h : Rest P k c ⟨env, st.set o (.cells t (nilTo cs l))⟩ Q) : Rest P k c ⟨env, st⟩ Q := by
  obtain ⟨h⟩ := h
  refine ⟨fun E a w hE hr => h E a w hE ?_⟩
  obtain ⟨χ, G, hf⟩ := hr
  have hf : Fits E χ G ⟨env, st⟩ a w := hf
  have hlt : o < st.length := (List.getElem?_eq_some_iff.1 ho).1
  obtain ⟨g, us, m1, m2, m3, m4⟩ := hf.2.1 o _ ho
  exact (hf.set (ob := .cells t (nilTo cs l)) (w' := w) (χ' := χ) (G' := G) hlt rfl rfl rfl (Nat.le_refl _) (fun b hb hne => ⟨rfl, rfl⟩) (fun _ _ => rfl) ⟨fun g hg => hg, fun n hd hh => ⟨n, hd, hh, Nat.le_refl _, fun _ => rfl⟩⟩ ⟨g, us, m1, m2, m3, nilTo_ok l m4⟩).rel

/-- Nothing in a variable, as a row that is empty yet. -/
theorem hand_ghostc {P : Program} {k : Kx} {c : Code} {env : List SV} {st : List Ob} {Q : Exit → St → Prop} (o : Nat) {t : TypeId} {sz0 : Nat} (e sz : Nat) (ho : st[o]? = some (.cells t [.pure (.list sz0 true [])]))
    (h : Hand P k c ⟨env, st.set o (.cells t [.vref st.length 0]) ++ [.vec 0 e sz true []]⟩ Q) : Hand P k c ⟨env, st⟩ Q := by
  obtain ⟨h⟩ := h
  exact ⟨fun E a w hE hr => h E a w hE (hr.ghostc o e sz ho)⟩

mutual
theorem rn_id {m : Nat → Nat} {k : Nat} (hm : ∀ j, j < k → m j = j) : ∀ (s : SV), s.inn k = true → s.rn m = s
  | .pure _, _ => rfl
  | .ptr o j, h => by simp only [SV.inn, decide_eq_true_eq] at h; simp only [SV.rn, hm o h]
  | .vref o n, h => by simp only [SV.inn, decide_eq_true_eq] at h; simp only [SV.rn, hm o h]
  | .eptr o n sz i off, h => by simp only [SV.inn, decide_eq_true_eq] at h; simp only [SV.rn, hm o h]
  | .ipt _, _ => rfl
  | .mref o, h => by simp only [SV.inn, decide_eq_true_eq] at h; simp only [SV.rn, hm o h]
  | .agg cs, h => by simp only [SV.inn] at h; simp only [SV.rn, rnL_id hm cs h]
  | .tup cs, h => by simp only [SV.inn] at h; simp only [SV.rn, rnL_id hm cs h]
  | .clo f cs, h => by simp only [SV.inn] at h; simp only [SV.rn, rnL_id hm cs h]
  | .dead, _ => rfl
  | .lit _ _, _ => rfl
  | .sref o j n, h => by simp only [SV.inn, decide_eq_true_eq] at h; simp only [SV.rn, hm o h]
  | .yld o, h => by simp only [SV.inn, decide_eq_true_eq] at h; simp only [SV.rn, hm o h]
  | .bnd f cs, h => by simp only [SV.inn] at h; simp only [SV.rn, rnL_id hm cs h]
theorem rnL_id {m : Nat → Nat} {k : Nat} (hm : ∀ j, j < k → m j = j) : ∀ (cs : List SV), SV.inL k cs = true → SV.rnL m cs = cs
  | [], _ => rfl
  | c :: cs, h => by simp only [SV.inL, Bool.and_eq_true] at h; simp only [SV.rnL, rn_id hm c h.1, rnL_id hm cs h.2]
end

end Go.Sy
/- Deferred calls: one that is put off ahead of the function's work, and done behind it. Contracts of calls that turn one cell. -/
set_option linter.all false
set_option maxHeartbeats 4000000
namespace Go.Sy
open Go.RowKit

section
variable {P : Program}

/-- **What a deferred call does.** -/
def CallDOk (P : Program) (f : FuncId) (args : List SV) (st : List Ob) (Q : Res) : Prop :=
  isFn P f ∧ ∀ (χ : Nat → Color) (G : Gh) (w : World) (vs : List Value), Gl χ w → RTL χ w G args vs → RSt χ w G st → (∀ o, st.length ≤ o → G o = none) →
    CallsDIn (FW none) 0 P f vs.toArray .returning w fun e u' w' => u' = .returning ∧ ∃ r v st' χ' G', Q r st' ∧ e = .returned v ∧ RS χ' w' G' r v ∧ RSt χ' w' G' st' ∧ Fr χ w χ' w' ∧ st.length ≤ st'.length ∧ GLe st.length G G' ∧ (∀ o, st'.length ≤ o → G' o = none)

/-- A function value's function, and what stands ahead of the arguments or behind them. -/
def defArgs : SV → Option (FuncId × List SV)
  | .pure (.val (.func (.func g) ⟨[]⟩ ⟨[]⟩)) => some (g, [])
  | .clo g caps => some (g, caps)
  | .bnd g first => some (g, first)
  | _ => none

inductive DefIn (P : Program) (s : SV) (st : List Ob) (R : List Ob → Prop) : Prop
  | mk (f : FuncId) (args : List SV) (hs : defArgs s = some (f, args)) (ids : List Nat) (args' : List SV) (obs : List Ob) (Q : Res) (hn : ids.Nodup) (hi : ∀ i ∈ ids, i < st.length) (ha : args = SV.rnL (fun j => ids.getD j 0) args') (hb : SV.inL ids.length args' = true)
      (ho : ids.map (fun i => st.getD i .gone) = obs.map (Ob.rn fun j => ids.getD j 0)) (hob : obs.all (Ob.inn ids.length) = true)
      (h : CallDOk P f args' obs Q) (k : ∀ r st', Q r st' → R (backSt ids st st'))

theorem defArgs_ok {χ : Nat → Color} {w : World} {G : Gh} {s : SV} {v : Value} {f : FuncId} {args : List SV} (h : defArgs s = some (f, args)) (hr : RS χ w G s v) :
    ∃ first caps us, v = .func (.func f) first caps ∧ first ++ caps = List.toArray us ∧ RTL χ w G args us := by
  unfold defArgs at h
  split at h
  · cases h
    have hr : v = _ := hr
    subst hr
    exact ⟨_, _, [], rfl, rfl, rfl⟩
  · cases h
    obtain ⟨us, rfl, h2⟩ := hr
    exact ⟨_, _, us, rfl, by simp, h2⟩
  · cases h
    obtain ⟨us, rfl, h2⟩ := hr
    exact ⟨_, _, us, rfl, by simp, h2⟩
  · cases h

/-! ## a walk whose first steps put a call off -/
def Ent.put (E : Ent) (dss : List SV) (dvs : List Value) : Ent := { E with k := { E.k with dss := dss }, dvs := dvs }

def awpD (P : Program) (k : Kx) (c : Code) (σ : St) (Q : List SV → Exit → St → Prop) : Prop :=
  ∀ (E : Ent) (a : Act) (w : World), E.k = k → Rel E σ a w → a.defers = E.dvs.map dfOf → c.wpIn (FW E.ro) 0 P (fun e a' w' => ∃ dss dvs σ', Q dss e σ' ∧ Rel (E.put dss dvs) σ' a' w') a w

inductive HandD (P : Program) (k : Kx) (c : Code) (σ : St) (Q : List SV → Exit → St → Prop) : Prop
  | mk (h : awpD P k c σ Q)

theorem guard_sound' {E : Ent} {a : Act} {w : World} {env : List SV} {st : List Ob} {ops : Array Oper} {o : Oper} {rest : List Oper} {q : Option (SV → Prop)} {K : St → Prop} {Q : Exit → Act → World → Prop}
    (h : vcGuard P ops o ⟨env, st⟩ q K) (hr : Rel E ⟨env, st⟩ a w) (hk : ∀ σ' a' w', K σ' → Rel E σ' a' w' → a'.defers = a.defers → wpListIn (FW E.ro) 0 P ops Q rest a' w') : wpListIn (FW E.ro) 0 P ops Q (o :: rest) a w := by
  refine wpListIn_step fun K' hK => ?_
  have dput : ∀ (x : Option Tmp) (v : Value), (a.put x v).defers = a.defers := fun x v => by cases x <;> rfl
  have run : vcOp P ops o (St.ev ⟨env, st⟩) st q (fun s st' => putK env st' o.dst s K) → o.wpIn (FW E.ro) 0 P a w K' Q := fun h => by
    have := op_sound (Q := Q) h hr
    exact Oper.wpIn_mono (fun a' w' ⟨s, v, st', hR, ha, h2⟩ => by subst ha; exact hK _ _ (hk _ _ _ (putK_iff.1 hR) (Rel.two (o := o.dst) h2) (dput _ _))) this
  unfold vcGuard at h
  split at h
  · rename_i hg
    rw [if_pos (by simp [Region.wanted, hg])]
    exact run h
  · rename_i j b hg
    split at h
    · exact h.elim
    · rename_i d hd
      split at h
      · rename_i t he
        obtain ⟨χ, G, hf⟩ := hr
        have hy := yielded_of hd hf.1 he
        split at h
        · rename_i htb
          rw [if_pos (by simp [Region.wanted, hg, hy]; simpa using htb)]
          exact run h
        · rename_i htb
          rw [if_neg (by simp [Region.wanted, hg, hy]; simpa using htb)]
          exact ⟨fun f _ => FW_fn _ f, hK _ _ (hk _ _ _ (putK_iff.1 h) (Rel.two (o := o.dst) (s := .tup []) (v := undef) ⟨χ, G, hf, [], rfl, rfl⟩) (dput _ _))⟩
      · rename_i he
        obtain ⟨χ, G, hf⟩ := hr
        have hy := yielded_not hd hf.1 he
        rw [if_neg (by simp [Region.wanted, hg, hy])]
        exact ⟨fun f _ => FW_fn _ f, hK _ _ (hk _ _ _ (putK_iff.1 h) (Rel.two (o := o.dst) (s := .tup []) (v := undef) ⟨χ, G, hf, [], rfl, rfl⟩) (dput _ _))⟩
      · exact h.elim

theorem ops_sound' {E : Ent} {ops : Array Oper} {tail : List Oper} {Q : Exit → Act → World → Prop} {D : List Deferred} : ∀ (l : List Oper) (σ : St) (K : St → Prop) (a : Act) (w : World), vcOps P ops l σ K → Rel E σ a w → a.defers = D →
    (∀ σ' a' w', K σ' → Rel E σ' a' w' → a'.defers = D → wpListIn (FW E.ro) 0 P ops Q tail a' w') → wpListIn (FW E.ro) 0 P ops Q (l ++ tail) a w
  | [], σ, K, a, w, h, hr, hd, hk => hk _ _ _ h hr hd
  | o :: rest, ⟨env, st⟩, K, a, w, h, hr, hd, hk => guard_sound' h hr fun σ' a' w' h' hr' hd' => ops_sound' rest σ' K a' w' h' hr' (hd'.trans hd) hk

/-- A region ahead of the call that is put off. -/
theorem handD_region {k : Kx} {id : Nat} {ops : Array Oper} {b : Code} {σ : St} {Q : List SV → Exit → St → Prop} (h : vcOps P ops ops.toList σ fun σ' => HandD P k b σ' Q) : HandD P k (.seq (.region id ops false) b) σ Q := by
  refine ⟨fun E a w hE hr hd => wpIn_seq (wpIn_region_list ?_)⟩
  rw [← List.append_nil ops.toList]
  exact ops_sound' (P := P) (E := E) (tail := []) ops.toList σ _ a w h hr hd fun σ' a' w' ⟨h'⟩ hr' hd' => wpListIn_nil (h' E a' w' hE hr' hd')

/-- No call is put off. -/
theorem handD_rest {k : Kx} {c : Code} {σ : St} {Q : List SV → Exit → St → Prop} (h : Rest P k c σ fun e σ' => Q k.dss e σ') : HandD P k c σ Q := by
  obtain ⟨h⟩ := h
  refine ⟨fun E a w hE hr hd => wpIn_mono (h E a w hE hr) ?_⟩
  rintro e a' w' ⟨σ', hq, hr'⟩
  refine ⟨k.dss, E.dvs, σ', hq, ?_⟩
  have : E.put k.dss E.dvs = E := by subst hE; rfl
  rw [this]
  exact hr'

/-- **A call is put off.** -/
theorem handD_defer {k : Kx} {id : Nat} {ops : Array Oper} {pre : List Oper} {o : Oper} {c0 : Call} {f : Operand} {b : Code} {σ : St} {Q : List SV → Exit → St → Prop} (hops : ops.toList = pre ++ [o]) (hop : o.op = .defer c0) (hc : c0.callee = .value f) (hca : c0.args = #[])
    (hg : o.guard = none) (hdst : o.dst = none) (hrnd : k.rnd = false)
    (h : vcOps P ops pre σ fun σ' => ∃ s, σ'.ev f = s ∧ (defArgs s).isSome = true ∧ Rest P { k with dss := s :: k.dss } b σ' fun e σ'' => Q (s :: k.dss) e σ'') : HandD P k (.seq (.region id ops false) b) σ Q := by
  refine ⟨fun E a w hE hr hd => wpIn_seq (wpIn_region_list ?_)⟩
  rw [hops]
  refine ops_sound' (P := P) (E := E) (tail := [o]) pre σ _ a w h hr hd ?_
  rintro σ' a' w' ⟨s, hs, hsome, ⟨h'⟩⟩ hr' hd'
  obtain ⟨χ, G, hf⟩ := hr'
  have hv := RS_ev (σ := σ') hf.1 f
  rw [hs] at hv
  obtain ⟨⟨g, args⟩, hda⟩ := Option.isSome_iff_exists.1 hsome
  obtain ⟨first, caps, us, hval, hus, hargs⟩ := defArgs_ok hda hv
  refine wpListIn_step fun K' hK => ?_
  rw [if_pos (by simp [Region.wanted, hg])]
  refine ⟨fun f _ => FW_fn _ f, ?_⟩
  have hrun : (o.semAt (FW E.ro).round a'.eval).run P w' = .ok (.defer { target := .fn (.func g) caps, args := first }) w' := by
    have hro : E.ro = none := hf.2.2.2.1.ro (by rw [hE]; exact hrnd)
    rw [show (FW E.ro).round = none from hro, Oper.semAt_none]
    unfold execOp
    rw [hop]
    simp [resolve, hc, hca, hval, Deferred.ofValue]
  rw [hrun, Oper.uponIn_defer, hdst]
  refine hK _ _ (wpListIn_nil ?_)
  have hr2 : Rel (E.put (s :: k.dss) (a'.eval f :: E.dvs)) σ' ({ a' with defers := { target := .fn (.func g) caps, args := first } :: a'.defers }.put none undef) w' := by
    obtain ⟨k1, k2, k3, ⟨d1, d2, pre', d3, d4, d5⟩, k5, k6, k7⟩ := hf
    refine ⟨χ, G, k1, k2, k3, ⟨⟨_, _, rfl, hv, by rw [← hE]; exact d1⟩, d2, [], ?_, by simp, List.nodup_nil⟩, k5, k6, k7⟩
    show _ :: a'.defers = dfOf (a'.eval f) :: E.dvs.map dfOf
    rw [hd', hval]
    rfl
  have := h' (E.put (s :: k.dss) (a'.eval f :: E.dvs)) _ w' (by subst hE; rfl) hr2
  refine wpIn_mono this ?_
  rintro e a2 w2 ⟨σ2, hq, hr3⟩
  exact ⟨s :: k.dss, a'.eval f :: E.dvs, σ2, hq, hr3⟩

/-! ## the function's end -/
/-- A function's end, once no call is put off any more. -/
theorem exit_fin {fn : Func} {pur : Bool} {m : Nat} {Q : Res} {st : List Ob} {χ : Nat → Color} {w : World} {G : Gh} {k : Kx} {σ : St} {tm : Array Value} {χ1 : Nat → Color} {G1 : Gh} {w' : World} {hgl : Gl χ w} (hk : k.n = st.length) (hm : st.length ≤ m)
    (hf : Fits ⟨χ, w, G, k, [], none, hgl⟩ χ1 G1 σ { tmps := tm, defers := [] } w') (hx : exitVC P fn pur m σ Q) :
    ∃ v, (results fn tm).run P w' = .ok v w' ∧ ∃ r v' st' χ' G', Q r st' ∧ Ending.returned v = .returned v' ∧ RS χ' w' G' r v' ∧ RSt χ' w' G' st' ∧ Fr χ w χ' w' ∧ st.length ≤ st'.length ∧ GLe st.length G G' ∧ (∀ o, st'.length ≤ o → G' o = none) := by
  obtain ⟨l, us, hx, hl, hrun⟩ := resList_ok hf _ _ hx
  obtain ⟨χ2, l', st', hx, hf2, him, hl2⟩ := purL_ok l hf hl hx
  simp only [must_iff, Bool.and_eq_true, decide_eq_true_eq] at hx
  obtain ⟨⟨⟨hm1, hin⟩, hin2⟩, hQ⟩ := hx
  obtain ⟨k1, k2, k3, k4, k5, k6, k7⟩ := hf2
  refine ⟨_, results_run hrun, _, _, _, χ2, dn (fun _ => 0) m G1, hQ, rfl, ?_, fun o ob ho => ?_, k3, by simp; omega, fun o ho => ?_, fun o ho => ?_⟩
  · have hl3 := RTL.dn (f := fun _ => 0) (m := m) l' us hin (by rw [upL_zero]; exact hl2)
    match l', us, hl3 with
    | [], us, h => simp [RTL] at h; subst h; exact ⟨[], rfl, rfl⟩
    | [s], us, ⟨u, r, e, h1, h2⟩ => simp [RTL] at h2; subst h2; subst e; exact h1
    | s :: s' :: l, us, h =>
      obtain ⟨u, r, rfl, h1, u', r', rfl, h2, h3⟩ := h
      exact ⟨_, rfl, u, _, rfl, h1, u', _, rfl, h2, h3⟩
  · have hlt : o < m := by have := (List.getElem?_eq_some_iff.1 ho).1; simp at this; omega
    rw [List.getElem?_take, if_pos hlt] at ho
    have hob : ob.inn m = true := by
      rw [List.all_eq_true] at hin2
      exact hin2 ob (List.mem_of_getElem? (i := o) (by rw [List.getElem?_take, if_pos hlt]; exact ho))
    refine RO.dn hlt hob ?_
    have := k2 o ob ho
    cases ob with
    | cells t cs => simp only [Ob.up]; rw [upL_zero]; exact this
    | loop env ps asg body s pend => simp only [Ob.up]; rw [upL_zero]; exact this
    | _ => exact this
  · obtain ⟨q1, q2⟩ := k6 o (by rw [hk]; exact ho)
    have hlt : o < m := by omega
    refine ⟨fun g hg => by simp [dn, hlt, q1 g hg], fun n hd hh => ?_⟩
    obtain ⟨m', h', e1, e2, e3⟩ := q2 n hd hh
    exact ⟨m', h', by simp [dn, hlt, e1], e2, e3⟩
  · have : ¬ o < m := by simp at ho; omega
    unfold dn
    rw [if_neg this]

def dBody (P : Program) (fn : Func) (pur : Bool) (m : Nat) (Q : Res) (dss : List SV) (e : Exit) (σ : St) : Prop :=
  match e with
  | .normal | .ret => match dss with
    | [] => exitVC P fn pur m σ Q
    | [s] => DefIn P s σ.st fun st' => exitVC P fn pur m ⟨σ.env, st'⟩ Q
    | _ => False
  | _ => False

theorem isFn_run {f : FuncId} {args : Array Value} {w : World} (h : isFn P f) : (callFunc f args).run P w = .ok (.enter f args) w := callFunc_run h

/-- The call that was put off, and marks ahead of it. -/
theorem leaves_one {E : Ent} {s : SV} {v : Value} {fn : Func} {R : Ending → World → Prop} {σ : St} {tm : Array Value} {K : List Ob → Prop} (hdss : E.k.dss = [s]) (hdv : E.dvs = [v]) (hd : DefIn P s σ.st K)
    (h : ∀ st' χ G w, K st' → Fits (E.put [] []) χ G ⟨σ.env, st'⟩ { tmps := tm, defers := [] } w → ∃ v, (results fn tm).run P w = .ok v w ∧ R (.returned v) w) :
    ∀ (ds : List Deferred) (χ : Nat → Color) (G : Gh) (w : World), Fits E χ G σ { tmps := tm, defers := ds } w → LeavesInM (FW none) 0 P fn tm R ds .returning w
  | [], χ, G, w, hf => by
    obtain ⟨_, _, pre, d3, _⟩ := hf.2.2.2.1
    rw [hdv] at d3
    have := congrArg List.length d3
    simp at this
  | d :: ds, χ, G, w, hf => by
    have hf0 := hf
    obtain ⟨h1, h2, h3, ⟨d1, d2, pre, d3, d4, d5⟩, h5, h6, h7⟩ := hf
    rw [hdv] at d3
    cases pre with
    | nil =>
      simp only [List.map_cons, List.map_nil, List.nil_append, List.cons.injEq] at d3
      obtain ⟨rfl, rfl⟩ := d3
      have hsv : RS χ w G s v := by
        rw [hdss, hdv] at d1
        obtain ⟨u, r, e, q1, q2⟩ := d1
        cases e
        exact q1
      obtain ⟨f, args, hs, ids, args', obs, Q, hn, hi, ha, hb, ho, hob, hD, k⟩ := hd
      obtain ⟨first, caps, us, rfl, hus, hargs⟩ := defArgs_ok hs hsv
      obtain ⟨hfn, hD⟩ := hD
      have hf1 : Fits (E.put [] []) χ G ⟨σ.env, σ.st⟩ { tmps := tm, defers := [] } w := ⟨h1, h2, h3, ⟨rfl, d2, [], rfl, by simp, List.nodup_nil⟩, h5, h6, h7⟩
      obtain ⟨χc, Gc, hgl, g1, g2, g3, _, g4⟩ := obj_step hf1 hargs hn hi ha hb ho hob
      have hcall := hD χc Gc w us hgl g1 g2 g3
      refine ⟨by simp, .inr ⟨fun e => (by cases e), .func f, caps, f, us.toArray, rfl, ?_, fun _ _ => FW_fn _ _, ?_⟩⟩
      · show (callFunc f (first ++ caps)).run P w = _
        rw [hus]
        exact callFunc_run hfn
      · refine CallsDIn.mono hcall ?_
        rintro e u' w' ⟨rfl, r, v', st', χ1, G1, hQ, rfl, hr, hst1, hfr, hlen, hgle, hnone⟩
        obtain ⟨χ2, G2, q1, q2, q3⟩ := g4 r v' st' χ1 G1 w' hr hst1 hfr hlen hgle hnone
        exact h _ χ2 G2 w' (k r st' hQ) q1
    | cons d' pre =>
      simp only [List.map_cons, List.map_nil, List.cons_append, List.cons.injEq] at d3
      obtain ⟨rfl, rfl⟩ := d3
      obtain ⟨r, e1, e2, e3, e4⟩ := d4 d (by simp)
      refine ⟨by simp, .inl ⟨r, w.putObj r (.deferred none), by rw [e1], run_takeDeferred e4, ?_⟩⟩
      refine leaves_one hdss hdv hd h _ (fun b => if b = r then .other else χ b) G _ ?_
      have hne : ∀ b, b ≠ r → (if b = r then Color.other else χ b) = χ b ∧ (w.putObj r (.deferred none)).heap[b]? = w.heap[b]? := fun b hb => ⟨if_neg hb, World.putObj_heap_other hb⟩
      have hk : Keep χ w (fun b => if b = r then .other else χ b) (w.putObj r (.deferred none)) := fun b hlt hi => by
        obtain ⟨k1, k2⟩ := hne b (fun e => by rw [e, e2] at hi; cases hi)
        exact ⟨by simp only; rw [k1]; exact hi, k2⟩
      refine ⟨RTL.mono hk (GGo.refl _) _ _ h1, fun o ob ho => RO.mono hk (GGo.refl _) rfl (fun b hlt hc => ?_) (h2 o ob ho),
        ⟨h3.os, h3.tape, h3.output, by rw [World.putObj_size]; exact h3.size, fun b hlt hi => ?_, fun b hlt hi => ?_⟩, ⟨RTL.mono hk (GGo.refl _) _ _ d1, d2, pre, by rw [hdv]; rfl, fun d' hd' => ?_, (List.nodup_cons.1 d5).2⟩, h5, h6, h7⟩
      · obtain ⟨k1, k2⟩ := hne b (fun e => by rw [e, e2] at hc; cases hc)
        exact ⟨by (try simp only); rw [k1]; exact hc, k2⟩
      · obtain ⟨k1, k2⟩ := hne b (by omega)
        obtain ⟨k3, k4⟩ := h3.imm b hlt hi
        exact ⟨by (try simp only); rw [k1]; exact k3, by rw [k2]; exact k4⟩
      · obtain ⟨k1, k2⟩ := hne b (by omega)
        obtain ⟨k3, k4⟩ := h3.other b hlt hi
        exact ⟨by (try simp only); rw [k1]; exact k3, by rw [k2]; exact k4⟩
      · obtain ⟨r', f1, f2, f3, f4⟩ := d4 d' (by simp [hd'])
        have hrr : r' ≠ r := by
          rintro rfl
          rw [← e1] at f1
          rw [f1] at hd'
          exact (List.nodup_cons.1 d5).1 hd'
        obtain ⟨k1, k2⟩ := hne r' hrr
        exact ⟨r', f1, by (try simp only); rw [k1]; exact f2, f3, by rw [k2]; exact f4⟩

/-- **A contract of a function that puts one call off.** -/
theorem callOkD_of {f : FuncId} {fn : Func} {c : Code} {args : List SV} {st : List Ob} {Q : Res} (pur : Bool) (m : Nat) (hfn : P.funcs[f]? = some fn) (hb : fn.body = some c) (hname : (fn.name == "runtime.NumGoroutine") = false) (hm : st.length ≤ m)
    (h : HandD P { n := st.length } c ⟨args ++ List.replicate (fn.ntmps - args.length) .dead, st⟩ (dBody P fn pur m Q)) : CallOk P f args st Q := by
  refine fun χ G w vs hgl hargs hst hG => .inl ⟨⟨fn, hfn, by rw [hb]; rfl, hname⟩, ?_⟩
  refine (FW_calls (ro := none) (n := 0)).1 (callsIn_of_wp_marks hfn hb (FW_fn _ _) ?_)
  have hrel : Rel ⟨χ, w, G, { n := st.length }, [], none, hgl⟩ ⟨args ++ List.replicate (fn.ntmps - args.length) .dead, st⟩ { tmps := vs.toArray ++ Array.replicate (fn.ntmps - vs.toArray.size) undef, defers := [] } w := by
    refine ⟨χ, G, ?_, hst, ⟨rfl, rfl, rfl, Nat.le_refl _, fun b _ h => ⟨h, rfl⟩, fun b _ h => ⟨h, rfl⟩⟩, ⟨rfl, fun _ => rfl, [], rfl, by simp, List.nodup_nil⟩, Nat.le_refl _, fun o _ => ⟨fun g h => h, fun n hd hh => ⟨n, hd, hh, Nat.le_refl _, fun _ => rfl⟩⟩, hG⟩
    have := hargs.append (RTL.replicate_dead (χ := χ) (w := w) (G := G) (fn.ntmps - args.length) undef)
    simpa [hargs.length] using this
  obtain ⟨h⟩ := h
  refine wpIn_mono (h _ _ _ rfl hrel rfl) ?_
  rintro e a' w0 ⟨dss, dvs, σ', hq, χ0, G0, hf0⟩
  have hf0 : Fits (Ent.put ⟨χ, w, G, { n := st.length }, [], none, hgl⟩ dss dvs) χ0 G0 σ' a' w0 := hf0
  have fin : dBody P fn pur m Q dss .normal σ' → LeavesInM (FW none) 0 P fn a'.tmps (fun e w' => ∃ r v' st' χ' G', Q r st' ∧ e = .returned v' ∧ RS χ' w' G' r v' ∧ RSt χ' w' G' st' ∧ Fr χ w χ' w' ∧ st.length ≤ st'.length ∧ GLe st.length G G' ∧ (∀ o, st'.length ≤ o → G' o = none)) a'.defers .returning w0 := by
    intro hq
    have hdl : dvs.length = dss.length := by have := hf0.2.2.2.1.vals.length; simpa [Ent.put] using this
    unfold dBody at hq
    match dss, dvs, hdl, hq, hf0 with
    | [], [], _, hq, hf0 => exact leaves_marks (E := Ent.put ⟨χ, w, G, { n := st.length }, [], none, hgl⟩ [] []) (G := G0) (σ := σ') rfl (fun χ1 w' hf => exit_fin (k := { n := st.length }) rfl hm hf hq) a'.defers χ0 w0 hf0
    | [s], [v], _, hq, hf0 => exact leaves_one (E := Ent.put ⟨χ, w, G, { n := st.length }, [], none, hgl⟩ [s] [v]) rfl rfl hq (fun st' χ1 G1 w' hK hf => exit_fin (k := { n := st.length }) (σ := ⟨σ'.env, st'⟩) rfl hm hf hK) a'.defers χ0 G0 w0 hf0
  cases e with
  | normal => exact fin hq
  | ret => exact fin hq
  | exit id => exact hq.elim
  | goto l => exact hq.elim
  | panic ch => exact hq.elim
  | outgrown => exact hq.elim

/-! ## deferred functions -/
/-- One that does nothing. -/
theorem callDOk_skip {f : FuncId} {fn : Func} (hfn : P.funcs[f]? = some fn) (hb : fn.body = some .skip) (hname : (fn.name == "runtime.NumGoroutine") = false) (hres : fn.results = #[]) : CallDOk P f [] [] fun r st' => r = .tup [] ∧ st' = [] := by
  refine ⟨⟨fn, hfn, by rw [hb]; rfl, hname⟩, fun χ G w vs hgl hargs hst hG => ?_⟩
  refine callsDIn_of_wp hfn hb (FW_fn _ _) (wpIn_skip ?_)
  refine ⟨rfl, .tuple #[], ?_, .tup [], .tuple #[], [], χ, G, ⟨rfl, rfl⟩, rfl, ⟨[], rfl, rfl⟩, by intro o ob ho; simp at ho, ⟨rfl, rfl, rfl, Nat.le_refl _, fun b _ h => ⟨h, rfl⟩, fun b _ h => ⟨h, rfl⟩⟩, Nat.le_refl _, fun o ho => absurd ho (Nat.not_lt_zero _), hG⟩
  simp [results, hres]

/-- One of a single piece. -/
theorem callDOk_region {f : FuncId} {fn : Func} {id : Nat} {ops : Array Oper} {args : List SV} {st : List Ob} {Q : Res} (m : Nat) (hfn : P.funcs[f]? = some fn) (hb : fn.body = some (.region id ops false)) (hname : (fn.name == "runtime.NumGoroutine") = false) (hm : st.length ≤ m)
    (h : vcOps P ops ops.toList ⟨args ++ List.replicate (fn.ntmps - args.length) .dead, st⟩ fun σ => exitVC P fn false m σ Q) : CallDOk P f args st Q := by
  refine ⟨⟨fn, hfn, by rw [hb]; rfl, hname⟩, fun χ G w vs hgl hargs hst hG => ?_⟩
  have hrel : Rel ⟨χ, w, G, { n := st.length }, [], none, hgl⟩ ⟨args ++ List.replicate (fn.ntmps - args.length) .dead, st⟩ { tmps := vs.toArray ++ Array.replicate (fn.ntmps - vs.toArray.size) undef, defers := [] } w := by
    refine ⟨χ, G, ?_, hst, ⟨rfl, rfl, rfl, Nat.le_refl _, fun b _ h => ⟨h, rfl⟩, fun b _ h => ⟨h, rfl⟩⟩, ⟨rfl, fun _ => rfl, [], rfl, by simp, List.nodup_nil⟩, Nat.le_refl _, fun o _ => ⟨fun g h => h, fun n hd hh => ⟨n, hd, hh, Nat.le_refl _, fun _ => rfl⟩⟩, hG⟩
    have := hargs.append (RTL.replicate_dead (χ := χ) (w := w) (G := G) (fn.ntmps - args.length) undef)
    simpa [hargs.length] using this
  refine callsDIn_of_wp hfn hb (FW_fn _ _) (wpIn_region_list ?_)
  rw [← List.append_nil ops.toList]
  refine ops_sound' (P := P) (E := ⟨χ, w, G, { n := st.length }, [], none, hgl⟩) (tail := []) ops.toList _ _ _ w h hrel rfl ?_
  rintro σ' a' w' hx ⟨χ1, G1, hf⟩ hd
  refine wpListIn_nil ?_
  obtain ⟨tm, ds⟩ := a'
  simp only at hd
  subst hd
  obtain ⟨v, hv, hR⟩ := exit_fin (k := { n := st.length }) rfl hm (show Fits _ χ1 G1 σ' { tmps := tm, defers := [] } w' from hf) hx
  exact ⟨rfl, v, hv, hR⟩
end
end Go.Sy

namespace Go.Sy
open Go.RowKit
/-- A call that turns one cell of a variable. -/
theorem callOk_cell {P : Program} {f : FuncId} {T : TypeId} {cs : List SV} {rs : List Ob} {k : Nat} {x y : Int} (hfn : isFn P f)
    (h : ∀ (a : Addr) (w : World), w.cell? a = some (.int .i32 x) → w.frozen? a = false → Calls P f #[.pointer (some a)] w fun e w' => e = .returned (.tuple #[]) ∧ w' = w.setCell a (.int .i32 y)) (hk : cs[k]? = some (vI .i32 x)) :
    CallOk P f [.ptr 0 k] (.cells T cs :: rs) fun r st' => r = .tup [] ∧ st' = .cells T (cs.set k (vI .i32 y)) :: rs := by
  intro χ G w vs hgl hargs hst hG
  obtain ⟨v, r, rfl, ⟨g, hg, rfl⟩, hr⟩ := hargs
  have hr : r = [] := hr
  subst hr
  obtain ⟨g', us, hG', hcol, hheap, hl⟩ := hst 0 _ rfl
  rw [hg] at hG'
  cases hG'
  obtain ⟨u, hu, huv, _⟩ := hl.get hk
  have huv : u = .int .i32 x := huv
  subst huv
  have hc : w.cell? ⟨g, k, none⟩ = some (.int .i32 x) := by simp [World.cell?, hheap, hu]
  have hz : w.frozen? ⟨g, k, none⟩ = false := by simp [World.frozen?, hheap]
  refine .inl ⟨hfn, (h _ w hc hz).mono ?_⟩
  rintro e w' ⟨rfl, rfl⟩
  have hs := heap_setCell_same w g k _ _ (.int .i32 y) hheap
  have hbl : ∀ b, b ≠ g → (w.setCell ⟨g, k, none⟩ (.int .i32 y)).heap[b]? = w.heap[b]? := fun b hb => Below.heap_setCell _ _ _ _ hb
  have hkp : Keep χ w χ (w.setCell ⟨g, k, none⟩ (.int .i32 y)) := fun b hlt hi => ⟨hi, hbl b (fun e => by rw [e, hcol] at hi; cases hi)⟩
  refine ⟨.tup [], _, _, χ, G, ⟨rfl, rfl⟩, rfl, ⟨[], rfl, rfl⟩, ?_, ⟨rfl, rfl, rfl, by simp [World.setCell], fun b hlt hi => ⟨hi, hbl b (fun e => by rw [e, hcol] at hi; cases hi)⟩, fun b hlt hi => ⟨hi, hbl b (fun e => by rw [e, hcol] at hi; cases hi)⟩⟩, Nat.le_refl _, fun o ho => ⟨fun g h => h, fun n hd hh => ⟨n, hd, hh, Nat.le_refl _, fun _ => rfl⟩⟩, hG⟩
  intro o ob ho
  cases o with
  | zero =>
    cases ho
    refine ⟨g, us.set k (.int .i32 y), hg, hcol, by rw [hs]; simp, ?_⟩
    have := RSL.setAt (χ := χ) (w := w.setCell ⟨g, k, none⟩ (.int .i32 y)) (G := G) (vs := [vI .i32 y]) (ws := [.int .i32 y]) ⟨_, [], rfl, rfl, rfl, rfl⟩ k (RSL.mono hkp (GGo.refl G) _ _ hl)
    exact this
  | succ o =>
    have ho' : rs[o]? = some ob := by simpa using ho
    refine RO.mono hkp (GGo.refl G) rfl (fun b hlt hc2 => ⟨hc2, hbl b (fun e => ?_)⟩) (hst (o + 1) ob (by simpa using ho'))
    rw [e, hcol] at hc2
    cases hc2
end Go.Sy
/- law10: locks. -/
set_option linter.all false
set_option maxHeartbeats 4000000
set_option maxRecDepth 100000
namespace Go.Proofs.YtafngalmkblipaaGreatDoor
open Go Go.RowKit Go.Sy Go.Proofs

theorem decrec_nn {n : Nat} {f : ¬ n = n → Prop} {g : n = n → Prop} {d : Decidable (n = n)} (h : g rfl) : (Decidable.rec (motive := fun _ => Prop) f g d : Prop) := by
  cases d with
  | isTrue _ => exact h
  | isFalse e => exact (e rfl).elim

theorem CallIn.oe {P : Program} {f : FuncId} {args : List SV} {st : List Ob} {R : Res} (ids : List Nat) {args' : List SV} {obs obs' : List Ob} {v : SV} (h : CallOk P f args' obs fun r st' => r = v ∧ st' = obs') (v' : SV) (st2 : List Ob)
    (hv : v.rn (backN ids st.length) = v') (hs : backSt ids st obs' = st2) (k : R v' st2) (hn : decide ids.Nodup = true := by rfl) (hi : (ids.all fun i => decide (i < st.length)) = true := by rfl)
    (ha : args = SV.rnL (fun j => ids.getD j 0) args' := by rfl) (hb : SV.inL ids.length args' = true := by rfl)
    (ho : ids.map (fun i => st.getD i .gone) = obs.map (Ob.rn fun j => ids.getD j 0) := by rfl) (hob : obs.all (Ob.inn ids.length) = true := by rfl) : CallIn P f args st none R :=
  CallIn.o ids h hn hi ha hb ho hob fun r st' ⟨e1, e2⟩ => by subst e1 e2; rw [hv, hs]; exact k

abbrev muL : Go.Conc.Locks.MuLink := { lock := 57, unlock := 58, ilock := 87, iunlock := 88, lockSlow := 110, unlockSlow := 113, disable := 106, enable := 108, acquire := 109, relMerge := 111, cas32 := 107, add32 := 112, tMutex := 73, tIMutex := 71, tPMutex := 139, tPIMutex := 157, tPI32 := 159, tUP := 161, tNoCopy := 68, tU32 := 69 }
theorem muLib : Go.Conc.Locks.MuLib Tryz.prog muL :=
  ⟨Tryz.func57, Tryz.func58, Tryz.func87, Tryz.func88, Tryz.func106, Tryz.func108, Tryz.func109, Tryz.func111, Tryz.func107, Tryz.func112, Tryz.underlying71, Tryz.runUnderlying71, Tryz.sizeOf71, Tryz.isAgg71, Tryz.zeroValue71, Tryz.underlying73, Tryz.runUnderlying73, Tryz.sizeOf73, Tryz.isAgg73, Tryz.zeroValue73, Tryz.underlying139, Tryz.runUnderlying139, Tryz.sizeOf139, Tryz.isAgg139, Tryz.zeroValue139, Tryz.underlying157, Tryz.runUnderlying157, Tryz.sizeOf157, Tryz.isAgg157, Tryz.zeroValue157, Tryz.underlying159, Tryz.runUnderlying159, Tryz.sizeOf159, Tryz.isAgg159, Tryz.zeroValue159, Tryz.underlying161, Tryz.runUnderlying161, Tryz.sizeOf161, Tryz.isAgg161, Tryz.zeroValue161, Tryz.underlying68, Tryz.runUnderlying68, Tryz.sizeOf68, Tryz.isAgg68, Tryz.zeroValue68, Tryz.underlying21, Tryz.runUnderlying21, Tryz.sizeOf21, Tryz.isAgg21, Tryz.zeroValue21, (by kernel_rfl)⟩

theorem fn49 : isFn Tryz.prog 87 := ⟨_, Tryz.func87, rfl, rfl⟩
theorem fn50 : isFn Tryz.prog 88 := ⟨_, Tryz.func88, rfl, rfl⟩

/-- A book's objects: whether it is locked, and what it has. -/
structure BkP where
  rows : List PV
  nr : Bool
  asked : List (PV × PV)
  rules : List (PV × PV)
  prefs : List PV
  np : Bool
  off : List (PV × PV)
  names : List (PV × PV)
  vr : Nat
  vp : Nat
def bkT (b : BkP) : List Ob := [.vec b.vr 44 3 b.nr b.rows, .map b.asked, .map b.rules, .vec b.vp 100 5 b.np b.prefs, .map b.off, .map b.names]
def bk (m : Int) (b : BkP) : List Ob := .cells 75 [vI .i32 m, vI .u32 0, .vref 1 b.vr, .mref 2, .mref 3, .vref 4 b.vp, .mref 5, .mref 6] :: bkT b

theorem ilock_ok (b : BkP) : CallOk Tryz.prog 87 [.ptr 0 0] (bk 0 b) fun r st' => r = .tup [] ∧ st' = bk 1 b :=
  callOk_cell fn49 (fun a w hc hz => Go.MuLone.ilock_free muLib a w hc hz) rfl
theorem iunlock_ok (b : BkP) : CallOk Tryz.prog 88 [.ptr 0 0] (bk 1 b) fun r st' => r = .tup [] ∧ st' = bk 0 b :=
  callOk_cell fn50 (fun a w hc hz => Go.MuLone.iunlock_held muLib a w hc hz) rfl

theorem lock_ok (b : BkP) : CallOk Tryz.prog 57 [.ptr 0 0] (bk 0 b) fun r st' => r = .tup [] ∧ st' = bk 1 b := by
  refine callOk_of false 7 Tryz.func57 rfl rfl (Nat.le_refl _) ?_
  conv => whnf
  repeat (first | (refine rest_vc ?_; conv => whnf) | (refine ⟨by decide, ?_⟩; conv => whnf))
  refine CallIn.o [0, 1, 2, 3, 4, 5, 6] (ilock_ok b) (k := ?_)
  rintro r st' ⟨rfl, rfl⟩
  conv => whnf
  repeat (first | (refine rest_vc ?_; conv => whnf) | (refine ⟨by decide, ?_⟩; conv => whnf))
  exact ⟨rfl, rfl⟩

theorem unlock_ok (b : BkP) : CallDOk Tryz.prog 58 [.ptr 0 0] (bk 1 b) fun r st' => r = .tup [] ∧ st' = bk 0 b := by
  refine callDOk_region 7 Tryz.func58 rfl rfl (Nat.le_refl _) ?_
  conv => whnf
  repeat (first | (refine rest_vc ?_; conv => whnf) | (refine ⟨by decide, ?_⟩; conv => whnf))
  refine CallIn.o [0, 1, 2, 3, 4, 5, 6] (iunlock_ok b) (k := ?_)
  rintro r st' ⟨rfl, rfl⟩
  conv => whnf
  repeat (first | (refine rest_vc ?_; conv => whnf) | (refine ⟨by decide, ?_⟩; conv => whnf))
  exact ⟨rfl, rfl⟩

theorem skip_ok : CallDOk Tryz.prog 56 [] [] fun r st' => r = .tup [] ∧ st' = [] := callDOk_skip Tryz.func56 rfl rfl rfl

theorem enter_ok (b : BkP) : CallOk Tryz.prog 24 [.ptr 0 0] (bk 0 b) fun r st' => r = .tup [.bnd 58 [.ptr 0 0], vI .i64 0] ∧ st' = bk 1 b := by
  refine callOk_of false 7 Tryz.func24 rfl rfl (Nat.le_refl _) ?_
  conv => whnf
  repeat (first | (refine rest_vc ?_; conv => whnf) | (refine ⟨by decide, ?_⟩; conv => whnf))
  refine CallIn.o [0, 1, 2, 3, 4, 5, 6] (lock_ok b) (k := ?_)
  rintro r st' ⟨rfl, rfl⟩
  conv => whnf
  repeat (first | (refine rest_vc ?_; conv => whnf) | (refine ⟨by decide, ?_⟩; conv => whnf))
  exact ⟨rfl, rfl⟩
theorem enterNil_ok : CallOk Tryz.prog 24 [.pure (.val (.pointer none))] [] fun r st' => r = .tup [.pure (.val (.func (.func 56) #[] #[])), vI .i64 9] ∧ st' = [] := by
  refine callOk_of false 0 Tryz.func24 rfl rfl (Nat.le_refl _) ?_
  conv => whnf
  repeat (first | (refine rest_vc ?_; conv => whnf) | (refine ⟨by decide, ?_⟩; conv => whnf))
  exact ⟨rfl, rfl⟩

/-- At a method's end the book is unlocked. -/
theorem unlockD {P' : BkP} {e st : List Ob} {R : List Ob → Prop} (hst : st = bk 1 P' ++ e) (h : R (bk 0 P' ++ e)) : DefIn Tryz.prog (.bnd 58 [.ptr 0 0]) st R := by
  subst hst
  refine .mk 58 [.ptr 0 0] rfl [0, 1, 2, 3, 4, 5, 6] [.ptr 0 0] (bk 1 P') (fun r st' => r = .tup [] ∧ st' = bk 0 P') (by decide) (fun i hi => ?_) rfl rfl rfl rfl (unlock_ok P') ?_
  · simp only [List.mem_cons, List.not_mem_nil, or_false] at hi
    simp only [bk, bkT, List.cons_append, List.nil_append, List.length_cons]
    omega
  · rintro r st' ⟨rfl, rfl⟩
    have : backSt [0, 1, 2, 3, 4, 5, 6] (bk 1 P' ++ e) (bk 0 P') = bk 0 P' ++ e := (List.append_nil _).trans rfl
    rw [this]
    exact h

/-! ## rows -/
structure Rw where
  t : ByteArray
  k : Int
  x : ByteArray
def pvR (r : Rw) : PV := .agg [.val (.string r.t), .val (.int .i64 r.k), .val (.string r.x)]
def pvK (t : ByteArray) (k : Int) : PV := .agg [.val (.string t), .val (.int .i64 k)]
def maxN : Int := 4503599627370496
def isNumB (k : Int) : Bool := decide (k ≥ -4503599627370496) && decide (k ≤ 4503599627370496)
theorem isNum_ok (k : Int) : CallOk Tryz.prog 67 [vI .i64 k] [] fun r st' => st' = [] ∧ r = vB (isNumB k) := by
  refine callOk_of true 0 Tryz.func67 rfl rfl (Nat.le_refl _) ?_
  conv => whnf
  repeat (first | (refine rest_vc ?_; conv => whnf) | (refine ⟨by decide, ?_⟩; conv => whnf))
  split <;> rename_i h <;> (conv => whnf) <;> repeat (first | (refine rest_vc ?_; conv => whnf) | (refine ⟨by decide, ?_⟩; conv => whnf))
  · split <;> rename_i h2 <;> (conv => whnf) <;> repeat (first | (refine rest_vc ?_; conv => whnf) | (refine ⟨by decide, ?_⟩; conv => whnf))
    · exact ⟨rfl, congrArg vB (by unfold isNumB; rw [h, h2]; rfl)⟩
    · exact ⟨rfl, congrArg vB (by unfold isNumB; rw [h, h2]; rfl)⟩
  · exact ⟨rfl, congrArg vB (by unfold isNumB; rw [h]; rfl)⟩
theorem risNum_ok (k : Int) : CallOk Tryz.prog 70 [vI .i64 k] [] fun r st' => st' = [] ∧ r = vB (isNumB k) := by
  refine callOk_of true 0 Tryz.func70 rfl rfl (Nat.le_refl _) ?_
  conv => whnf
  repeat (first | (refine rest_vc ?_; conv => whnf) | (refine ⟨by decide, ?_⟩; conv => whnf))
  split <;> rename_i h <;> (conv => whnf) <;> repeat (first | (refine rest_vc ?_; conv => whnf) | (refine ⟨by decide, ?_⟩; conv => whnf))
  · split <;> rename_i h2 <;> (conv => whnf) <;> repeat (first | (refine rest_vc ?_; conv => whnf) | (refine ⟨by decide, ?_⟩; conv => whnf))
    · exact ⟨rfl, congrArg vB (by unfold isNumB; rw [h, h2]; rfl)⟩
    · exact ⟨rfl, congrArg vB (by unfold isNumB; rw [h, h2]; rfl)⟩
  · exact ⟨rfl, congrArg vB (by unfold isNumB; rw [h]; rfl)⟩

end Go.Proofs.YtafngalmkblipaaGreatDoor
/- law10: maps of books; rules. -/
set_option linter.all false
set_option maxHeartbeats 4000000
set_option maxRecDepth 100000
namespace Go.Proofs.YtafngalmkblipaaGreatDoor
open Go Go.RowKit Go.Sy Go.Proofs

/-! ## entries of a map, by their keys -/
section
variable {κ ν : Type}
/-- The first one of a key, with its place. -/
def lkI (eq : κ → κ → Bool) (a : κ) : List (κ × ν) → Nat → Option (Nat × ν)
  | [], _ => none
  | e :: r, i => if eq a e.1 then some (i, e.2) else lkI eq a r (i + 1)
theorem findPV_lkI {P : Program} {T : TypeId} {ek : κ → PV} {ev : ν → PV} {eq : κ → κ → Bool} (h : ∀ a b, eqPV P T (ek a) (ek b) = some (eq a b)) (a : κ) : ∀ (l : List (κ × ν)) (i : Nat),
    findPV P T (ek a) (l.map fun e => (ek e.1, ev e.2)) i = some ((lkI eq a l i).map fun x => (x.1, ev x.2))
  | [], i => rfl
  | e :: r, i => by
    simp only [List.map_cons, findPV, lkI, h]
    by_cases he : eq a e.1 = true
    · rw [he]; rfl
    · rw [Bool.not_eq_true] at he
      rw [he]
      exact findPV_lkI h a r (i + 1)
end

abbrev Spot := ByteArray × Int
def eqBA (a b : ByteArray) : Bool := a.toList == b.toList
def eqSp (a b : Spot) : Bool := eqBA a.1 b.1 && (a.2 == b.2)
def pvSp (a : Spot) : PV := pvK a.1 a.2
def pvB (s : ByteArray) : PV := .val (.string s)
theorem eq_spot (a b : Spot) : eqPV Tryz.prog 86 (pvSp a) (pvSp b) = some (eqSp a b) := by
  unfold pvSp pvK eqPV
  have e : flatT Tryz.prog 86 = some [.string, .int .i64] := by kernel_rfl
  simp only [e]
  simp [eqCs, eqSc, eqSp, eqBA]
theorem eq_str (a b : ByteArray) : eqPV Tryz.prog 9 (pvB a) (pvB b) = some (eqBA a b) := by
  unfold pvB eqPV
  have e : Tryz.prog.underlying 9 = some .string := by kernel_rfl
  simp only [e]
  rfl
abbrev enS (l : List (Spot × ByteArray)) : List (PV × PV) := l.map fun e => (pvSp e.1, pvB e.2)
theorem find_spot (a : Spot) (l : List (Spot × ByteArray)) : findPV Tryz.prog 86 (pvSp a) (enS l) 0 = some ((lkI eqSp a l 0).map fun x => (x.1, pvB x.2)) := findPV_lkI (ev := pvB) eq_spot a l 0

/-- What a book has. -/
structure Pf where
  n : ByteArray
  l : Int
  m : Int
  u : Int
  v : Int
def pvF (p : Pf) : PV := .agg [.val (.string p.n), .val (.int .i64 p.l), .val (.int .i64 p.m), .val (.int .i64 p.u), .val (.int .i64 p.v)]
structure Bst where
  rows : List Rw
  asked : List (Spot × ByteArray)
  rules : List (Spot × ByteArray)
  prefs : List Pf
  off : List (ByteArray × Unit)
  names : List (ByteArray × ByteArray)
  vr : Nat
  vp : Nat
abbrev enO (l : List (ByteArray × Unit)) : List (PV × PV) := l.map fun e => (pvB e.1, .val (.bool true))
abbrev enN (l : List (ByteArray × ByteArray)) : List (PV × PV) := l.map fun e => (pvB e.1, pvB e.2)
def Bst.k (b : Bst) : BkP := ⟨b.rows.map pvR, b.rows.isEmpty, enS b.asked, enS b.rules, b.prefs.map pvF, b.prefs.isEmpty, enO b.off, enN b.names, b.vr, b.vp⟩
/-- A book that is not locked. -/
abbrev bs (b : Bst) : List Ob := bk 0 b.k

/-! ## setting and taking away -/
def setK {κ ν : Type} (eq : κ → κ → Bool) (a : κ) (v : ν) (l : List (κ × ν)) : List (κ × ν) :=
  match lkI eq a l 0 with | some x => l.set x.1 (a, v) | none => l ++ [(a, v)]
def delK {κ ν : Type} (eq : κ → κ → Bool) (a : κ) (l : List (κ × ν)) : List (κ × ν) :=
  match lkI eq a l 0 with | some x => l.eraseIdx x.1 | none => l

def unruleB (b : Bst) (a : Spot) : Int × Bst :=
  match lkI eqSp a b.rules 0 with
  | none => (4, b)
  | some _ => (0, { b with rules := delK eqSp a b.rules })

theorem eraseIdx_map {α β : Type} (f : α → β) : ∀ (l : List α) (i : Nat), (l.map f).eraseIdx i = (l.eraseIdx i).map f
  | [], i => by simp
  | x :: l, 0 => rfl
  | x :: l, i + 1 => by simp [eraseIdx_map f l i]
theorem some_spot (a : Spot) : (eqPV Tryz.prog 86 (pvSp a) (pvSp a)).isSome = true := by rw [eq_spot]; rfl
theorem some_str (a : ByteArray) : (eqPV Tryz.prog 9 (pvB a) (pvB a)).isSome = true := by rw [eq_str]; rfl

theorem Unrule_ok (b : Bst) (t : ByteArray) (n : Int) : CallOk Tryz.prog 29 [.ptr 0 0, vS t, vI .i64 n] (bs b) fun r st' => r = vI .i64 (unruleB b (t, n)).1 ∧ st' = bs (unruleB b (t, n)).2 := by
  refine callOkD_of false 7 Tryz.func29 rfl rfl (Nat.le_refl _) ?_
  refine handD_region ?_
  conv => whnf
  refine handD_region ?_
  conv => whnf
  refine CallIn.o [0, 1, 2, 3, 4, 5, 6] (enter_ok b.k) (k := ?_)
  rintro r st' ⟨rfl, rfl⟩
  conv => whnf
  refine handD_defer (pre := [_]) rfl rfl rfl rfl rfl rfl rfl ?_
  conv => whnf
  repeat (first | (refine rest_vc ?_; conv => whnf) | (refine ⟨by decide, ?_⟩; conv => whnf))
  refine ⟨_, rfl, rfl, ?_⟩
  refine rest_vc ?_
  conv => whnf
  repeat (first | (refine rest_vc ?_; conv => whnf) | (refine ⟨by decide, ?_⟩; conv => whnf))
  refine hand_draw [] (fun _ _ => True) rfl (by kernel_rfl) rfl ?_
  conv => whnf
  repeat (first | (refine rest_vc ?_; conv => whnf) | (refine ⟨by decide, ?_⟩; conv => whnf))
  refine must_iff.2 ⟨some_spot (t, n), ?_⟩
  conv => whnf
  repeat (first | (refine rest_vc ?_; conv => whnf) | (refine ⟨by decide, ?_⟩; conv => whnf))
  refine ⟨_, find_spot (t, n) b.rules, ?_⟩
  generalize hk : lkI eqSp (t, n) b.rules 0 = x
  cases x with
  | none =>
    conv => whnf
    repeat (first | (refine rest_vc ?_; conv => whnf) | (refine ⟨by decide, ?_⟩; conv => whnf))
    refine unlockD (P' := b.k) rfl ?_
    conv => whnf
    repeat (first | (refine rest_vc ?_; conv => whnf) | (refine ⟨by decide, ?_⟩; conv => whnf))
    exact ⟨congrArg (vI .i64) (by unfold unruleB; rw [hk]), congrArg bs (by unfold unruleB; rw [hk])⟩
  | some x =>
    conv => whnf
    repeat (first | (refine rest_vc ?_; conv => whnf) | (refine ⟨by decide, ?_⟩; conv => whnf))
    refine hand_draw [6] (fun _ _ => True) rfl (by kernel_rfl) rfl ?_
    conv => whnf
    repeat (first | (refine rest_vc ?_; conv => whnf) | (refine ⟨by decide, ?_⟩; conv => whnf))
    refine must_iff.2 ⟨some_spot (t, n), ?_⟩
    conv => whnf
    repeat (first | (refine rest_vc ?_; conv => whnf) | (refine ⟨by decide, ?_⟩; conv => whnf))
    refine ⟨_, find_spot (t, n) b.rules, ?_⟩
    rw [hk]
    conv => whnf
    repeat (first | (refine rest_vc ?_; conv => whnf) | (refine ⟨by decide, ?_⟩; conv => whnf))
    refine unlockD (P' := { b.k with rules := (enS b.rules).eraseIdx x.1 }) rfl ?_
    conv => whnf
    repeat (first | (refine rest_vc ?_; conv => whnf) | (refine ⟨by decide, ?_⟩; conv => whnf))
    have e1 : (enS b.rules).eraseIdx x.1 = enS (delK eqSp (t, n) b.rules) := by unfold delK; rw [hk]; exact (eraseIdx_map _ _ _)
    refine ⟨congrArg (vI .i64) (by unfold unruleB; rw [hk]), ?_⟩
    show bk 0 { b.k with rules := (enS b.rules).eraseIdx x.1 } = _
    rw [e1]
    unfold unruleB; rw [hk]; rfl

/-! ## words -/
def atB (l : List UInt8) (i : Nat) : Nat := (l.getD i 0).toNat
def isLet (c : Nat) : Bool := (c == 95 || (decide (97 ≤ c) && decide (c ≤ 122))) || (decide (65 ≤ c) && decide (c ≤ 90))
def isPrt (c : Nat) : Bool := isLet c || (decide (48 ≤ c) && decide (c ≤ 57))
/-- Where a word ends that goes on at a place. -/
def wEnd (l : List UInt8) : Nat → Nat → Nat
  | 0, i => i
  | f + 1, i => if isPrt (atB l i) then wEnd l f (i + 1) else if atB l i == 46 && isPrt (atB l (i + 1)) then wEnd l f (i + 2) else i
def isWordB (s : ByteArray) : Bool := (((!s.toList.isEmpty) && isLet (atB s.toList 0)) && (wEnd s.toList s.toList.length 1 == s.toList.length)) && decide (s.toList.length ≤ 16)
/-- The function tells whether a text is a word. -/
def IsW (f : FuncId) : Prop := ∀ s : ByteArray, (s.size : Int) ≤ 2000000 → CallOk Tryz.prog f [vS s] [] fun r st' => st' = [] ∧ r = vB (isWordB s)
def Rw.ok (r : Rw) : Prop := (r.t.size : Int) ≤ 2000000 ∧ (r.x.size : Int) ≤ 2000000
def isRowB (r : Rw) : Bool := (isWordB r.t && isWordB r.x) && isNumB r.k

theorem isRow_ok (hw : IsW 66) (r : Rw) (hz : r.ok) : CallOk Tryz.prog 41 [.pure (pvR r)] [] fun r' st' => st' = [] ∧ r' = vB (isRowB r) := by
  refine callOk_of true 0 Tryz.func41 rfl rfl (Nat.le_refl _) ?_
  conv => whnf
  repeat (first | (refine rest_vc ?_; conv => whnf) | (refine ⟨by decide, ?_⟩; conv => whnf))
  refine CallIn.tob ((hw r.t hz.1)) (k := ?_)
  intro b h1
  cases b <;> (conv => whnf) <;> repeat (first | (refine rest_vc ?_; conv => whnf) | (refine ⟨by decide, ?_⟩; conv => whnf))
  · exact ⟨rfl, congrArg vB (by unfold isRowB; rw [h1]; rfl)⟩
  · refine CallIn.tob ((hw r.x hz.2)) (k := ?_)
    intro b h2
    cases b <;> (conv => whnf) <;> repeat (first | (refine rest_vc ?_; conv => whnf) | (refine ⟨by decide, ?_⟩; conv => whnf))
    · exact ⟨rfl, congrArg vB (by unfold isRowB; rw [h1, h2]; rfl)⟩
    · refine CallIn.tob ((isNum_ok r.k)) (k := ?_)
      intro b h3
      cases b <;> (conv => whnf) <;> repeat (first | (refine rest_vc ?_; conv => whnf) | (refine ⟨by decide, ?_⟩; conv => whnf))
      · exact ⟨rfl, congrArg vB (by unfold isRowB; rw [h1, h2, h3]; rfl)⟩
      · exact ⟨rfl, congrArg vB (by unfold isRowB; rw [h1, h2, h3]; rfl)⟩
theorem risRow_ok (hw : IsW 69) (r : Rw) (hz : r.ok) : CallOk Tryz.prog 64 [.pure (pvR r)] [] fun r' st' => st' = [] ∧ r' = vB (isRowB r) := by
  refine callOk_of true 0 Tryz.func64 rfl rfl (Nat.le_refl _) ?_
  conv => whnf
  repeat (first | (refine rest_vc ?_; conv => whnf) | (refine ⟨by decide, ?_⟩; conv => whnf))
  refine CallIn.tob ((hw r.t hz.1)) (k := ?_)
  intro b h1
  cases b <;> (conv => whnf) <;> repeat (first | (refine rest_vc ?_; conv => whnf) | (refine ⟨by decide, ?_⟩; conv => whnf))
  · exact ⟨rfl, congrArg vB (by unfold isRowB; rw [h1]; rfl)⟩
  · refine CallIn.tob ((hw r.x hz.2)) (k := ?_)
    intro b h2
    cases b <;> (conv => whnf) <;> repeat (first | (refine rest_vc ?_; conv => whnf) | (refine ⟨by decide, ?_⟩; conv => whnf))
    · exact ⟨rfl, congrArg vB (by unfold isRowB; rw [h1, h2]; rfl)⟩
    · refine CallIn.tob ((risNum_ok r.k)) (k := ?_)
      intro b h3
      cases b <;> (conv => whnf) <;> repeat (first | (refine rest_vc ?_; conv => whnf) | (refine ⟨by decide, ?_⟩; conv => whnf))
      · exact ⟨rfl, congrArg vB (by unfold isRowB; rw [h1, h2, h3]; rfl)⟩
      · exact ⟨rfl, congrArg vB (by unfold isRowB; rw [h1, h2, h3]; rfl)⟩

def ruleB (b : Bst) (r : Rw) : Int × Bst :=
  if isRowB r = false then (1, b) else
  match lkI eqSp (r.t, r.k) b.rules 0 with
  | none => if b.rules.length ≥ 60 then (3, b) else (0, { b with rules := setK eqSp (r.t, r.k) r.x b.rules })
  | some _ => (0, { b with rules := setK eqSp (r.t, r.k) r.x b.rules })

theorem setPV_setK {κ ν : Type} {eq : κ → κ → Bool} {ek : κ → PV} {ev : ν → PV} (a : κ) (v : ν) (l : List (κ × ν)) :
    setPV (l.map fun e => (ek e.1, ev e.2)) (ek a) (ev v) ((lkI eq a l 0).map fun x => (x.1, ev x.2)) = (setK eq a v l).map fun e => (ek e.1, ev e.2) := by
  unfold setPV setK
  cases lkI eq a l 0 with
  | none => simp
  | some x => simp [List.map_set]

theorem Rule_ok (hw : IsW 66) (b : Bst) (r : Rw) (hz : r.ok) (hb : (b.rules.length : Int) ≤ 1000) : CallOk Tryz.prog 17 [.ptr 0 0, .pure (pvR r)] (bs b) fun r' st' => r' = vI .i64 (ruleB b r).1 ∧ st' = bs (ruleB b r).2 := by
  refine callOkD_of false 7 Tryz.func17 rfl rfl (Nat.le_refl _) ?_
  refine handD_region ?_
  conv => whnf
  refine handD_region ?_
  conv => whnf
  refine CallIn.o [0, 1, 2, 3, 4, 5, 6] (enter_ok b.k) (k := ?_)
  rintro r st' ⟨rfl, rfl⟩
  conv => whnf
  refine handD_defer (pre := [_]) rfl rfl rfl rfl rfl rfl rfl ?_
  conv => whnf
  repeat (first | (refine rest_vc ?_; conv => whnf) | (refine ⟨by decide, ?_⟩; conv => whnf))
  refine ⟨_, rfl, rfl, ?_⟩
  refine rest_vc ?_
  conv => whnf
  repeat (first | (refine rest_vc ?_; conv => whnf) | (refine ⟨by decide, ?_⟩; conv => whnf))
  refine hand_draw [] (fun _ _ => True) rfl (by kernel_rfl) rfl ?_
  conv => whnf
  repeat (first | (refine rest_vc ?_; conv => whnf) | (refine ⟨by decide, ?_⟩; conv => whnf))
  refine must_iff.2 ⟨some_spot (r.t, r.k), ?_⟩
  conv => whnf
  repeat (first | (refine rest_vc ?_; conv => whnf) | (refine ⟨by decide, ?_⟩; conv => whnf))
  refine ⟨_, find_spot (r.t, r.k) b.rules, ?_⟩
  have hp := setPV_setK (ek := pvSp) (ev := pvB) (eq := eqSp) (r.t, r.k) r.x b.rules
  generalize hk : lkI eqSp (r.t, r.k) b.rules 0 = x at hp
  have hbad : isRowB r = false → ruleB b r = (1, b) := fun h1 => by unfold ruleB; rw [if_pos h1]
  cases x with
  | none =>
    conv => whnf
    repeat (first | (refine rest_vc ?_; conv => whnf) | (refine ⟨by decide, ?_⟩; conv => whnf))
    refine CallIn.tob ((isRow_ok hw r hz)) (k := ?_)
    intro b h1
    cases b <;> (conv => whnf) <;> repeat (first | (refine rest_vc ?_; conv => whnf) | (refine ⟨by decide, ?_⟩; conv => whnf))
    · refine unlockD (P' := b.k) rfl ?_
      conv => whnf
      repeat (first | (refine rest_vc ?_; conv => whnf) | (refine ⟨by decide, ?_⟩; conv => whnf))
      exact ⟨congrArg (vI .i64) (by rw [hbad h1]), congrArg bs (by rw [hbad h1])⟩
    · have h1' : ¬ isRowB r = false := by simp [h1]
      split <;> rename_i h2 <;> (conv => whnf) <;> repeat (first | (refine rest_vc ?_; conv => whnf) | (refine ⟨by decide, ?_⟩; conv => whnf))
      · have h2 := of_decide_eq_true h2
        have hl : b.rules.length ≥ 60 := by
          have : ((enS b.rules).length : Int) ≥ 60 := h2
          rw [List.length_map] at this
          omega
        have he : ruleB b r = (3, b) := by unfold ruleB; rw [if_neg h1', hk]; simp only; rw [if_pos hl]
        refine unlockD (P' := b.k) rfl ?_
        conv => whnf
        repeat (first | (refine rest_vc ?_; conv => whnf) | (refine ⟨by decide, ?_⟩; conv => whnf))
        exact ⟨congrArg (vI .i64) (by rw [he]), congrArg bs (by rw [he])⟩
      · have h2 := of_decide_eq_false h2
        have hl : ¬ b.rules.length ≥ 60 := by
          have : ¬ ((enS b.rules).length : Int) ≥ 60 := h2
          rw [List.length_map] at this
          omega
        have he : ruleB b r = (0, { b with rules := setK eqSp (r.t, r.k) r.x b.rules }) := by unfold ruleB; rw [if_neg h1', hk]; simp only; rw [if_neg hl]
        refine hand_draw [8] (fun _ _ => True) rfl (by kernel_rfl) rfl ?_
        conv => whnf
        repeat (first | (refine rest_vc ?_; conv => whnf) | (refine ⟨by decide, ?_⟩; conv => whnf))
        refine must_iff.2 ⟨some_spot (r.t, r.k), ?_⟩
        conv => whnf
        repeat (first | (refine rest_vc ?_; conv => whnf) | (refine ⟨by decide, ?_⟩; conv => whnf))
        refine ⟨_, find_spot (r.t, r.k) b.rules, ?_⟩
        rw [hk]
        conv => whnf
        repeat (first | (refine rest_vc ?_; conv => whnf) | (refine ⟨by decide, ?_⟩; conv => whnf))
        refine unlockD (P' := { b.k with rules := setPV (enS b.rules) (pvSp (r.t, r.k)) (pvB r.x) none }) rfl ?_
        conv => whnf
        repeat (first | (refine rest_vc ?_; conv => whnf) | (refine ⟨by decide, ?_⟩; conv => whnf))
        refine ⟨congrArg (vI .i64) (by rw [he]), ?_⟩
        show bk 0 { b.k with rules := setPV (enS b.rules) (pvSp (r.t, r.k)) (pvB r.x) none } = _
        rw [show setPV (enS b.rules) (pvSp (r.t, r.k)) (pvB r.x) none = _ from hp, he]
        rfl
  | some x =>
    conv => whnf
    repeat (first | (refine rest_vc ?_; conv => whnf) | (refine ⟨by decide, ?_⟩; conv => whnf))
    refine CallIn.tob ((isRow_ok hw r hz)) (k := ?_)
    intro b h1
    cases b <;> (conv => whnf) <;> repeat (first | (refine rest_vc ?_; conv => whnf) | (refine ⟨by decide, ?_⟩; conv => whnf))
    · refine unlockD (P' := b.k) rfl ?_
      conv => whnf
      repeat (first | (refine rest_vc ?_; conv => whnf) | (refine ⟨by decide, ?_⟩; conv => whnf))
      exact ⟨congrArg (vI .i64) (by rw [hbad h1]), congrArg bs (by rw [hbad h1])⟩
    · have h1' : ¬ isRowB r = false := by simp [h1]
      have he : ruleB b r = (0, { b with rules := setK eqSp (r.t, r.k) r.x b.rules }) := by unfold ruleB; rw [if_neg h1', hk]
      refine hand_draw [8] (fun _ _ => True) rfl (by kernel_rfl) rfl ?_
      conv => whnf
      repeat (first | (refine rest_vc ?_; conv => whnf) | (refine ⟨by decide, ?_⟩; conv => whnf))
      refine must_iff.2 ⟨some_spot (r.t, r.k), ?_⟩
      conv => whnf
      repeat (first | (refine rest_vc ?_; conv => whnf) | (refine ⟨by decide, ?_⟩; conv => whnf))
      refine ⟨_, find_spot (r.t, r.k) b.rules, ?_⟩
      rw [hk]
      conv => whnf
      repeat (first | (refine rest_vc ?_; conv => whnf) | (refine ⟨by decide, ?_⟩; conv => whnf))
      refine unlockD (P' := { b.k with rules := setPV (enS b.rules) (pvSp (r.t, r.k)) (pvB r.x) (some (x.1, pvB x.2)) }) rfl ?_
      conv => whnf
      repeat (first | (refine rest_vc ?_; conv => whnf) | (refine ⟨by decide, ?_⟩; conv => whnf))
      refine ⟨congrArg (vI .i64) (by rw [he]), ?_⟩
      show bk 0 { b.k with rules := setPV (enS b.rules) (pvSp (r.t, r.k)) (pvB r.x) (some (x.1, pvB x.2)) } = _
      rw [show setPV (enS b.rules) (pvSp (r.t, r.k)) (pvB r.x) (some (x.1, pvB x.2)) = _ from hp, he]
      rfl

end Go.Proofs.YtafngalmkblipaaGreatDoor
/- law10: rows of books. -/
set_option linter.all false
set_option maxHeartbeats 4000000
set_option maxRecDepth 100000
namespace Go.Proofs.YtafngalmkblipaaGreatDoor
open Go Go.RowKit Go.Sy Go.Proofs

def rowB (b : Bst) (r : Rw) : Int × Bst :=
  if isRowB r = false then (1, b) else
  match lkI eqSp (r.t, r.k) b.asked 0 with
  | some _ => (5, b)
  | none => if b.rows.length ≥ 60 then (3, b) else (0, { b with rows := b.rows ++ [r], asked := setK eqSp (r.t, r.k) r.x b.asked, vr := b.vr + 1 })

theorem Row_ok (hw : IsW 66) (b : Bst) (r : Rw) (hz : r.ok) (hb : (b.rows.length : Int) ≤ 1000) : CallOk Tryz.prog 15 [.ptr 0 0, .pure (pvR r)] (bs b) fun r' st' => r' = vI .i64 (rowB b r).1 ∧ st' = bs (rowB b r).2 := by
  refine callOkD_of false 7 Tryz.func15 rfl rfl (Nat.le_refl _) ?_
  refine handD_region ?_
  conv => whnf
  refine handD_region ?_
  conv => whnf
  refine CallIn.o [0, 1, 2, 3, 4, 5, 6] (enter_ok b.k) (k := ?_)
  rintro r st' ⟨rfl, rfl⟩
  conv => whnf
  refine handD_defer (pre := [_]) rfl rfl rfl rfl rfl rfl rfl ?_
  conv => whnf
  repeat (first | (refine rest_vc ?_; conv => whnf) | (refine ⟨by decide, ?_⟩; conv => whnf))
  refine ⟨_, rfl, rfl, ?_⟩
  refine rest_vc ?_
  conv => whnf
  repeat (first | (refine rest_vc ?_; conv => whnf) | (refine ⟨by decide, ?_⟩; conv => whnf))
  refine hand_draw [] (fun _ _ => True) rfl (by kernel_rfl) rfl ?_
  conv => whnf
  repeat (first | (refine rest_vc ?_; conv => whnf) | (refine ⟨by decide, ?_⟩; conv => whnf))
  refine must_iff.2 ⟨some_spot (r.t, r.k), ?_⟩
  conv => whnf
  repeat (first | (refine rest_vc ?_; conv => whnf) | (refine ⟨by decide, ?_⟩; conv => whnf))
  refine ⟨_, find_spot (r.t, r.k) b.asked, ?_⟩
  have hp := setPV_setK (ek := pvSp) (ev := pvB) (eq := eqSp) (r.t, r.k) r.x b.asked
  generalize hk : lkI eqSp (r.t, r.k) b.asked 0 = x at hp
  have hbad : isRowB r = false → rowB b r = (1, b) := fun h1 => by unfold rowB; rw [if_pos h1]
  cases x with
  | none =>
    conv => whnf
    repeat (first | (refine rest_vc ?_; conv => whnf) | (refine ⟨by decide, ?_⟩; conv => whnf))
    refine CallIn.tob ((isRow_ok hw r hz)) (k := ?_)
    intro b h1
    cases b <;> (conv => whnf) <;> repeat (first | (refine rest_vc ?_; conv => whnf) | (refine ⟨by decide, ?_⟩; conv => whnf))
    · refine unlockD (P' := b.k) rfl ?_
      conv => whnf
      repeat (first | (refine rest_vc ?_; conv => whnf) | (refine ⟨by decide, ?_⟩; conv => whnf))
      exact ⟨congrArg (vI .i64) (by rw [hbad h1]), congrArg bs (by rw [hbad h1])⟩
    · have h1' : ¬ isRowB r = false := by simp [h1]
      refine decrec_nn ?_
      conv => whnf
      repeat (first | (refine rest_vc ?_; conv => whnf) | (refine ⟨by decide, ?_⟩; conv => whnf))
      intro _
      conv => whnf
      repeat (first | (refine rest_vc ?_; conv => whnf) | (refine ⟨by decide, ?_⟩; conv => whnf))
      split <;> rename_i h2 <;> (conv => whnf) <;> repeat (first | (refine rest_vc ?_; conv => whnf) | (refine ⟨by decide, ?_⟩; conv => whnf))
      · have hl : b.rows.length ≥ 60 := by
          have : ((b.rows.map pvR).length : Int) ≥ 60 := of_decide_eq_true h2
          rw [List.length_map] at this
          omega
        have he : rowB b r = (3, b) := by unfold rowB; rw [if_neg h1', hk]; simp only; rw [if_pos hl]
        refine unlockD (P' := b.k) rfl ?_
        conv => whnf
        repeat (first | (refine rest_vc ?_; conv => whnf) | (refine ⟨by decide, ?_⟩; conv => whnf))
        exact ⟨congrArg (vI .i64) (by rw [he]), congrArg bs (by rw [he])⟩
      · have hl : ¬ b.rows.length ≥ 60 := by
          have : ¬ ((b.rows.map pvR).length : Int) ≥ 60 := of_decide_eq_false h2
          rw [List.length_map] at this
          omega
        have he : rowB b r = (0, { b with rows := b.rows ++ [r], asked := setK eqSp (r.t, r.k) r.x b.asked, vr := b.vr + 1 }) := by unfold rowB; rw [if_neg h1', hk]; simp only; rw [if_neg hl]
        have hlk : b.k.rows.length ≤ 60 := by show (b.rows.map pvR).length ≤ 60; rw [List.length_map]; omega
        refine hand_draw [8, 12] (fun _ _ => True) rfl (by kernel_rfl) rfl ?_
        conv => whnf
        repeat (first | (refine rest_vc ?_; conv => whnf) | (refine ⟨by decide, ?_⟩; conv => whnf))
        refine must_nn rfl ?_
        refine ⟨by exact Nat.le_trans (Nat.mul_le_mul_right _ (Nat.add_le_add_right hlk 1)) (by decide), ?_⟩
        conv => whnf
        repeat (first | (refine rest_vc ?_; conv => whnf) | (refine ⟨by decide, ?_⟩; conv => whnf))
        refine hand_draw [8] (fun _ _ => True) rfl (by kernel_rfl) rfl ?_
        conv => whnf
        repeat (first | (refine rest_vc ?_; conv => whnf) | (refine ⟨by decide, ?_⟩; conv => whnf))
        refine must_iff.2 ⟨some_spot (r.t, r.k), ?_⟩
        conv => whnf
        repeat (first | (refine rest_vc ?_; conv => whnf) | (refine ⟨by decide, ?_⟩; conv => whnf))
        refine ⟨_, find_spot (r.t, r.k) b.asked, ?_⟩
        rw [hk]
        conv => whnf
        repeat (first | (refine rest_vc ?_; conv => whnf) | (refine ⟨by decide, ?_⟩; conv => whnf))
        refine unlockD (P' := { b.k with rows := b.k.rows ++ [pvR r], nr := b.k.nr && false, asked := setPV (enS b.asked) (pvSp (r.t, r.k)) (pvB r.x) none, vr := b.vr + 1 }) rfl ?_
        conv => whnf
        repeat (first | (refine rest_vc ?_; conv => whnf) | (refine ⟨by decide, ?_⟩; conv => whnf))
        refine ⟨congrArg (vI .i64) (by rw [he]), ?_⟩
        show bk 0 { b.k with rows := b.k.rows ++ [pvR r], nr := b.k.nr && false, asked := setPV (enS b.asked) (pvSp (r.t, r.k)) (pvB r.x) none, vr := b.vr + 1 } = _
        rw [show setPV (enS b.asked) (pvSp (r.t, r.k)) (pvB r.x) none = _ from hp, he]
        have e3 : (b.rows ++ [r]).isEmpty = false := by cases b.rows <;> rfl
        unfold bs Bst.k
        simp [e3]
  | some x =>
    conv => whnf
    repeat (first | (refine rest_vc ?_; conv => whnf) | (refine ⟨by decide, ?_⟩; conv => whnf))
    refine CallIn.tob ((isRow_ok hw r hz)) (k := ?_)
    intro b h1
    cases b <;> (conv => whnf) <;> repeat (first | (refine rest_vc ?_; conv => whnf) | (refine ⟨by decide, ?_⟩; conv => whnf))
    · refine unlockD (P' := b.k) rfl ?_
      conv => whnf
      repeat (first | (refine rest_vc ?_; conv => whnf) | (refine ⟨by decide, ?_⟩; conv => whnf))
      exact ⟨congrArg (vI .i64) (by rw [hbad h1]), congrArg bs (by rw [hbad h1])⟩
    · have h1' : ¬ isRowB r = false := by simp [h1]
      have he : rowB b r = (5, b) := by unfold rowB; rw [if_neg h1', hk]
      refine unlockD (P' := b.k) rfl ?_
      conv => whnf
      repeat (first | (refine rest_vc ?_; conv => whnf) | (refine ⟨by decide, ?_⟩; conv => whnf))
      exact ⟨congrArg (vI .i64) (by rw [he]), congrArg bs (by rw [he])⟩

end Go.Proofs.YtafngalmkblipaaGreatDoor
