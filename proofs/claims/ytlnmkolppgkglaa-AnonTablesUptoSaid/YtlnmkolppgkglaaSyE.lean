/- The walk's operations are what the model does: scalars, operands. -/
import Derived.Test.YtlnmkolppgkglaaSyD
set_option linter.all false
set_option maxHeartbeats 4000000
namespace Go.Sy
open Go.RowKit

theorem RunsTo.mono {P : Program} {f : FuncId} {args : Array Value} {w : World} {R R' : Ending → World → Prop} (h : RunsTo P f args w R) (hr : ∀ e w', R e w' → R' e w') : RunsTo P f args w R' := by
  rcases h with ⟨h1, h2⟩ | ⟨v, w', h1, h2⟩
  · exact .inl ⟨h1, h2.mono hr⟩
  · exact .inr ⟨v, w', h1, hr _ _ h2⟩

/-- A state that fits, and one value beside it. -/
def Rel2 (E : Ent) (σ : St) (a : Act) (w : World) (s : SV) (v : Value) : Prop :=
  ∃ χ G, (RTL χ w G σ.env a.tmps.toList ∧ RSt χ w G σ.st ∧ Fr E.χ E.w χ w ∧ RD E χ w G a.defers ∧ E.k.n ≤ σ.st.length ∧ GLe E.k.n E.G G ∧ (∀ o, σ.st.length ≤ o → G o = none)) ∧ RS χ w G s v

theorem RP_ofV1 (χ : Nat → Color) (w : World) (v : Value) : RP χ w (ofV1 v) v := by
  unfold ofV1
  split
  · exact ⟨none, 0, [], rfl, Nat.le_refl _, Nat.zero_le _, fun _ => rfl, by simp, by simp [RF], fun k u h => by simp at h⟩
  · exact rfl

theorem RL_ofV1 (χ : Nat → Color) (w : World) : ∀ (us : List Value), (us.all fun u => u.oneCell') = true → RL χ w (us.map ofV1) us
  | [], _ => rfl
  | u :: us, h => by
    simp only [List.all_cons, Bool.and_eq_true] at h
    exact ⟨u, us, rfl, h.1, RP_ofV1 χ w u, RL_ofV1 χ w us h.2⟩

theorem RP_ofV (χ : Nat → Color) (w : World) (v : Value) : RP χ w (ofV v) v := by
  unfold ofV
  split
  · rename_i cs
    split
    · rename_i h
      exact ⟨cs.toList, by simp, RL_ofV1 χ w _ h⟩
    · exact rfl
  · exact RP_ofV1 χ w v

theorem RS_ev {χ : Nat → Color} {w : World} {G : Gh} {σ : St} {a : Act} (h : RTL χ w G σ.env a.tmps.toList) (x : Operand) : RS χ w G (σ.ev x) (a.eval x) := by
  cases x with
  | tmp t =>
    have := h.get t
    simpa [St.ev, Act.eval, Array.getD_eq_getD_getElem?, List.getD_eq_getElem?_getD] using this
  | const v => exact RP_ofV χ w v
  | global g => exact trivial
  | func f => exact rfl

theorem RS_nilAt {χ : Nat → Color} {w : World} {G : Gh} {P : Program} {t : TypeId} {s : SV} {v : Value} (h : RS χ w G s v) : RS χ w G (nilAt P t s) v := by
  unfold nilAt
  split
  · obtain ⟨A, c, us, h1, h2, h3, h4, h5, h6, h7⟩ := h
    refine ⟨A, c, us, h1, h2, h3, h4, h5, ?_, h7⟩
    simpa [RF] using h6
  · exact h.1
  · exact h

theorem Rel.two {E : Ent} {σ : St} {a : Act} {w : World} {s : SV} {v : Value} {o : Option Tmp} (h : Rel2 E σ a w s v) : Rel E (σ.put o s) (a.put o v) w := by
  obtain ⟨χ, G, ⟨h1, h2, h3, h4, h5, h6, h7⟩, hs⟩ := h
  cases o with
  | none => exact ⟨χ, G, h1, h2, h3, h4, h5, h6, h7⟩
  | some d => exact ⟨χ, G, by simpa [Act.put, St.put] using h1.set d hs, h2, h3, h4, h5, h6, h7⟩

section
variable {P : Program} {o : Oper} {a : Act} {w w' : World} {next : Act → World → Prop} {Q : Exit → Act → World → Prop} {v : Value}
theorem wp_value (h : (execOp a.eval o).run P w = .ok (.value v) w') (hk : next (a.put o.dst v) w') : o.wp P a w next Q := by
  unfold Oper.wp; rw [h]; exact hk
theorem wp_skip' (h : (execOp a.eval o).run P w = .ok .skip w') (hk : next (a.put o.dst undef) w') : o.wp P a w next Q := by
  unfold Oper.wp; rw [h]; exact hk
end

@[simp] theorem RS_val {χ : Nat → Color} {w : World} {G : Gh} {v u : Value} : RS χ w G (.pure (.val v)) u ↔ u = v := Iff.rfl

theorem scal {P : Program} {χ : Nat → Color} {w : World} {G : Gh} {R : SV → Prop} {m : Sem Value} {v : Value} (h : R (.pure (.val v))) (hr : m.run P w = .ok v w) :
    ∃ s v, R s ∧ m.run P w = .ok v w ∧ RS χ w G s v := ⟨_, v, h, hr, rfl⟩

theorem equal_bool {P : Program} {t : TypeId} (ht : P.underlying t = some .bool) (a b : Bool) (w : World) : (Op.equal t (.bool a) (.bool b)).run P w = .ok (a == b) w := by
  have h : ∀ d : Nat, (Op.equalIn (d + 1) t (.bool a) (.bool b)).run P w = .ok (a == b) w := fun d => by simp [Op.equalIn, run_underlying ht]
  exact h 9999
theorem equal_nil {P : Program} {t e : TypeId} (ht : P.underlying t = some (.slice e)) (A : Option Addr) (n c n' c' : Nat) (w : World) : (Op.equal t (.slice A n c) (.slice none n' c')).run P w = .ok A.isNone w := by
  have h : ∀ d : Nat, (Op.equalIn (d + 1) t (.slice A n c) (.slice none n' c')).run P w = .ok A.isNone w := fun d => by cases A <;> simp [Op.equalIn, run_underlying ht]
  exact h 9999

/-- What an operation without memory comes to. -/
theorem bin_run {P : Program} {χ : Nat → Color} {w : World} {G : Gh} {op : BinOp} {t : TypeId} {ox oy : Operand} {x y : SV} {vx vy : Value} {R : SV → Prop}
    (hx : RS χ w G x vx) (hy : RS χ w G y vy) (h : vcBin P op t x y R) :
    ∃ s v, R s ∧ (do eqGuard op t ox oy vx vy; binOp op t vx vy : Sem Value).run P w = .ok v w ∧ RS χ w G s v := by
  unfold vcBin at h
  simp only [onB_iff, iShl, iShr, iAnd, iOr, iXor, iAndNot] at h
  split at h
  · -- ints
    rename_i k a k' b
    simp only [RS_val] at hx hy
    subst hx hy
    cases op <;> simp only [must_iff, decide_eq_true_eq] at h
    case shl => exact scal h.2 (by simp [eqGuard, binOp, Op.shift]; intro h0; omega)
    case shr => exact scal h.2 (by simp [eqGuard, binOp, Op.shift]; intro h0; omega)
    case quo => obtain ⟨rfl, hb, h⟩ := h; exact scal h (by simp [eqGuard, binOp, Op.intDiv, hb])
    case rem => obtain ⟨rfl, hb, h⟩ := h; exact scal h (by simp [eqGuard, binOp, Op.intDiv, hb])
    all_goals
      obtain ⟨rfl, h⟩ := h
      exact scal h (by simp [eqGuard, binOp, Op.intArith, Op.intBits, Op.intCmp])
  · -- strings
    rename_i a b
    simp only [RS_val] at hx hy
    subst hx hy
    cases op <;> simp only [] at h <;> (try exact h.elim)
    case add => exact scal h.2 (by simp [eqGuard, binOp, Op.stringOp]; have h1 := h.1; omega)
    all_goals exact scal h (by simp [eqGuard, binOp, Op.stringOp])
  · rename_i a b
    simp only [RS_val] at hx hy
    subst hx hy
    simp only [must_iff] at h
    obtain ⟨ht, h⟩ := h
    have ht : P.underlying t = some .bool := by revert ht; split <;> simp_all
    cases op <;> simp only [] at h <;> (try exact h.elim)
    all_goals exact scal h (by simp [eqGuard, binOp, equal_bool ht])
  · rename_i sz nl xs
    obtain ⟨A, c, us, rfl, h2, h3, h4, h5, h6, h7⟩ := hx
    obtain ⟨A', c', us', rfl, h2', h3', h4', h5', h6', h7'⟩ := hy
    have hA' : A' = none := h5'.1 rfl
    subst hA'
    simp only [must_iff, bne_iff_ne, ne_eq] at h
    obtain ⟨ht, h⟩ := h
    have ht : ∃ e, P.underlying t = some (.slice e) := by
      unfold eszOf at ht
      split at ht
      · exact ⟨_, by assumption⟩
      · exact absurd rfl ht
    obtain ⟨e, ht⟩ := ht
    have hn : A.isNone = nl := by cases A <;> cases nl <;> simp_all
    cases op <;> simp only [] at h <;> (try exact h.elim)
    all_goals
      refine scal h ?_
      subst hn
      simp [eqGuard, binOp, equal_nil ht]
  · exact h.elim

theorem min_run {P : Program} {χ : Nat → Color} {w : World} {G : Gh} {x y : SV} {vx vy : Value} {ts : Array TypeId} {t : TypeId} {R : SV → Prop}
    (hx : RS χ w G x vx) (hy : RS χ w G y vy) (h : vcMin x y R) : ∃ s v, R s ∧ (Builtin.min_ ts t #[vx, vy]).run P w = .ok v w ∧ RS χ w G s v := by
  unfold vcMin at h
  split at h
  · rename_i k a k' b
    simp only [RS_val] at hx hy
    subst hx hy
    refine scal h ?_
    have : (if b < a then b else a) = min a b := by split <;> omega
    simp [Builtin.min_, Builtin.min2, this]
  · exact h.elim
theorem max_run {P : Program} {χ : Nat → Color} {w : World} {G : Gh} {x y : SV} {vx vy : Value} {ts : Array TypeId} {t : TypeId} {R : SV → Prop}
    (hx : RS χ w G x vx) (hy : RS χ w G y vy) (h : vcMax x y R) : ∃ s v, R s ∧ (Builtin.max_ ts t #[vx, vy]).run P w = .ok v w ∧ RS χ w G s v := by
  unfold vcMax at h
  split at h
  · rename_i k a k' b
    simp only [RS_val] at hx hy
    subst hx hy
    refine scal h ?_
    have : (if b > a then b else a) = max a b := by split <;> omega
    simp [Builtin.max_, Builtin.max2, this]
  · exact h.elim

theorem un_run {P : Program} {χ : Nat → Color} {w : World} {G : Gh} {op : UnOp} {x : SV} {vx : Value} {R : SV → Prop}
    (hx : RS χ w G x vx) (h : vcUn op x R) : ∃ s v, R s ∧ (Op.unary op vx).run P w = .ok v w ∧ RS χ w G s v := by
  unfold vcUn at h
  split at h
  · simp only [RS_val] at hx; subst hx; exact scal h (by simp [Op.unary])
  · simp only [RS_val] at hx; subst hx; exact scal h (by simp [Op.unary, Op.intArith])
  · simp only [RS_val] at hx; subst hx; exact scal h (by simp [Op.unary, Op.intBits])
  · exact h.elim

end Go.Sy
