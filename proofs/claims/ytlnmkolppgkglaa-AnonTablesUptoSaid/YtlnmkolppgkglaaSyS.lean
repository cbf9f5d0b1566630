/- What is read of an argument, as a symbolic value: one law for each form of a type. -/
import Derived.Test.YtlnmkolppgkglaaSyR
import Derived.Test.YtlnmkolppgkglaaRows
import Derived.DataReads
import Derived.Carry
import Derived.ChangeSame
import Derived.JoinedCond
import Derived.OpenShut
import Derived.ChangeShapes
import Derived.ChangeArms
import Derived.WideShapes
set_option linter.all false
set_option maxHeartbeats 4000000
namespace Go.Sy
open Go.RowKit
open Go.Proofs.Ytlnmkolppgkglaa.Rows (uptoBulk uptoBulkAll uptoSmall)

section
variable {H : Type} {enc : TypeId × Value → H} {P : Program}
open Go.ChangeShapes Go.WideShapes
/-- The row's last step where the call made blocks of its own. -/
theorem post_of_below {f : Func} {s : ChangeSpec} {apart fresh handsOn again : Bool} {W W' : World} {args : Array Value} {v : Value} {ds gs : List (DataW H)} {before pa pv : List MemPlace}
    (hW : DataW.Whole enc P f.params.toList s.vars apart W args.toList ds gs before)
    (hres : ∀ (b : Nat) (sp : Nat → Bool) (hd : Bool), DataW.TrodAll enc P W' b sp hd f.resultTypes.toList (v.resultList f.resultTypes.size) (s.fn H (ds ++ gs)).results [])
    (hargs : ∀ sp : Nat → Bool, (∀ p ∈ before, sp p.block = true) → DataW.TrodAll enc P W' 0 sp true f.params.toList args.toList (s.fn H (ds ++ gs)).args pa)
    (hvars : ∀ sp : Nat → Bool, (∀ p ∈ before, sp p.block = true) → DataW.TrodVars enc P W' sp s.vars (s.fn H (ds ++ gs)).vars pv)
    (hps : before = pa ++ pv) (hb : Below W.heap.size W W')
    (hok : ∀ (j : Nat) (t : TypeId) (r : Value), f.resultTypes[j]? = some t → (v.resultList f.resultTypes.size)[j]? = some r → Value.okWide P W' .any 0 t r) :
    s.post enc P f apart fresh handsOn again W args v W' := by
  have hlt : ∀ p ∈ before, p.block < W.heap.size := fun p hp => hW.lt p hp
  have hold : ∀ p ∈ before, (fun b => decide (b < W.heap.size)) p.block = true := fun p hp => by simpa using hlt p hp
  refine ⟨ds, gs, before, [], pa, pv, hW, hres _ _ _, hargs _ hold, hvars _ hold, World.keptBut_mono (fun p hp => ⟨hp, ?_⟩) (hb.frame (· ∈ before)), fun _ => ?_⟩
  · rw [hps, List.mem_append] at hp
    exact Or.inr hp
  · obtain ⟨_, _, _, _, _, hz, hn⟩ := hW
    refine ⟨hok, _, _, ([] ++ pa) ++ pv, ⟨[] ++ pa, pv, trodAll_append (hargs _ (fun _ _ => rfl)) (hres _ _ _), hvars _ (fun _ _ => rfl), rfl, ?_, ?_⟩, ?_⟩
    · intro b off hp
      have hin : MemPlace.cell b off ∈ before := by rw [hps]; simpa using hp
      rw [hb.frozen (hlt _ hin)]
      exact hz b off hin
    · intro ha
      have := hn ha
      rw [hps] at this
      simpa using this
    · intro p hp _
      rw [hps]
      simpa using hp
end

/-- Nobody writes in what was there. -/
abbrev allImm : Nat → Color := fun _ => .imm

/-- What is read at a type is one of these. -/
def Reads {H : Type} (enc : TypeId × Value → H) (P : Program) (t : TypeId) {α : Type} (pv : α → PV) (wt : α → Nat) (inv : α → Prop) : Prop :=
  ∀ (w : World) (fuel : Nat) (cs : List Value) (d : DataW H) (ps : List MemPlace), DataW.trod enc P w 0 (fun _ => true) true fuel t cs = some (d, ps) →
    ∃ x, inv x ∧ wt x ≤ uptoBulk d ∧ RL allImm w (pv x).cells cs

section
variable {H : Type} {enc : TypeId × Value → H} {P : Program} {t : TypeId}

theorem reads_int {k : IntKind} (ht : P.underlying t = some (.int k)) : Reads enc P t (fun n : Int => .val (.int k n)) (fun _ => 1) (fun n => k.min ≤ n ∧ n ≤ k.max) := by
  intro w fuel cs d ps h
  obtain ⟨n, rfl, e, hw⟩ := DataW.trod_int ht h
  simp only [Prod.mk.injEq] at e
  obtain ⟨rfl, rfl⟩ := e
  simp [Lit.wf] at hw
  exact ⟨n, hw, by simp [uptoBulk], _, [], rfl, rfl, rfl, rfl⟩

theorem reads_bool (ht : P.underlying t = some .bool) : Reads enc P t (fun b : Bool => .val (.bool b)) (fun _ => 1) (fun _ => True) := by
  intro w fuel cs d ps h
  obtain ⟨b, rfl, e⟩ := DataW.trod_bool ht h
  simp only [Prod.mk.injEq] at e
  obtain ⟨rfl, rfl⟩ := e
  exact ⟨b, trivial, by simp [uptoBulk], _, [], rfl, rfl, rfl, rfl⟩

theorem reads_string (ht : P.underlying t = some .string) : Reads enc P t (fun s : ByteArray => .val (.string s)) (fun s => s.size + 1) (fun s => s.size ≤ maxLen) := by
  intro w fuel cs d ps h
  obtain ⟨s, rfl, e, hs⟩ := DataW.trod_string ht h
  simp only [Prod.mk.injEq] at e
  obtain ⟨rfl, rfl⟩ := e
  refine ⟨s, hs, ?_, _, [], rfl, rfl, rfl, rfl⟩
  have e : s.data.toList.length = s.size := by rw [Array.length_toList]; rfl
  simp only [uptoBulk]
  omega

theorem bulk_get {l : List (DataW H)} : ∀ {i : Nat} {d : DataW H}, l[i]? = some d → uptoBulk d ≤ uptoBulkAll l := by
  induction l with
  | nil => intro i d h; simp at h
  | cons x r ih =>
    intro i d h
    simp only [uptoBulkAll]
    cases i with
    | zero => simp at h; subst h; omega
    | succ j => have := ih (i := j) (by simpa using h); omega

theorem RL_one {χ : Nat → Color} {w : World} : ∀ {cs : List PV} {us : List Value}, RL χ w cs us → ∀ u ∈ us, u.oneCell' = true
  | [], us, h, u, hu => by have : us = [] := h; subst this; cases hu
  | c :: cs, us, h, u, hu => by
    obtain ⟨u', r, rfl, h1, h2, h3⟩ := h
    rcases List.mem_cons.1 hu with rfl | hu
    · exact h1
    · exact RL_one h3 u hu

theorem RL_vals_eq {χ : Nat → Color} {w : World} : ∀ {vs : List Value} {us : List Value}, RL χ w (vs.map .val) us → us = vs
  | [], us, h => h
  | v :: vs, us, h => by
    obtain ⟨u, r, rfl, h1, h2, h3⟩ := h
    have h2 : u = v := h2
    rw [h2, RL_vals_eq h3]

/-- One value out of its cells. -/
theorem of_cells {χ : Nat → Color} {w : World} {p : PV} {cs : List Value} (h : RL χ w p.cells cs) : ∃ u, u.cells.toList = cs ∧ RP χ w p u := by
  have one : ∀ (p : PV), p.cells = [p] → RL χ w p.cells cs → ∃ u, u.cells.toList = cs ∧ RP χ w p u := fun p e h => by
    rw [e] at h
    obtain ⟨u, r, rfl, h1, h2, h3⟩ := h
    have h3 : r = [] := h3
    subst h3
    refine ⟨u, ?_, h2⟩
    cases u <;> first | rfl | simp [Value.oneCell'] at h1
  cases p with
  | val v =>
    cases v with
    | agg a =>
      have := RL_vals_eq (vs := a.toList) h
      exact ⟨.agg a, this.symm, rfl⟩
    | _ => exact one _ rfl h
  | agg ps => exact ⟨.agg cs.toArray, by simp [Value.cells], cs, rfl, h⟩
  | list sz nl xs => exact one _ rfl h

def sumWt {α : Type} (wt : α → Nat) (xs : List α) : Nat := (xs.map wt).sum

/-- The elements of a slice, one by one. -/
theorem elems_ok {e : TypeId} {α : Type} {pv : α → PV} {wt : α → Nat} {inv : α → Prop} (he : Reads enc P e pv wt inv) {w : World} {a : Addr} {fuel : Nat} :
    ∀ (k : Nat) (rs : List (DataW H × List MemPlace)),
      (∀ i, i < rs.length → (w.cells? 0 (a.add ((k + i) * P.cellsOf e)) (P.cellsOf e)).bind (DataW.trod enc P w 0 (fun _ => true) true fuel e) = rs[i]?) →
      ∃ (xs : List α) (us : List Value), xs.length = rs.length ∧ (∀ x ∈ xs, inv x) ∧ sumWt wt xs ≤ uptoBulkAll (rs.map (·.1)) ∧ RF allImm w (P.cellsOf e) (xs.map pv) us ∧ (∀ j u, us[j]? = some u → w.cell? (a.add (k * P.cellsOf e + j)) = some u)
  | k, [], h => ⟨[], [], rfl, by simp, by simp [sumWt], rfl, by simp⟩
  | k, r :: rs', h => by
    have h0 := h 0 (by simp)
    simp only [Nat.add_zero, List.getElem?_cons_zero, Option.bind_eq_some_iff] at h0
    obtain ⟨cs, hcs, hr⟩ := h0
    obtain ⟨d, ps⟩ := r
    obtain ⟨xs, us, hl, hi, hwt, hrf, hc⟩ := elems_ok he (k + 1) rs' fun i hi => by
      have := h (i + 1) (by simp; omega)
      rw [List.getElem?_cons_succ] at this
      rw [← this, show k + 1 + i = k + (i + 1) by omega]
    obtain ⟨x, hx, hwx, hcx⟩ := he w fuel cs d ps hr
    obtain ⟨u, hu, hp⟩ := of_cells hcx
    obtain ⟨_, hlen, hget⟩ := World.cells?_some hcs
    refine ⟨x :: xs, cs ++ us, by simp [hl], ?_, ?_, ?_, ?_⟩
    · intro y hy
      rcases List.mem_cons.1 hy with rfl | hy
      · exact hx
      · exact hi y hy
    · simp only [sumWt, List.map_cons, List.sum_cons, uptoBulkAll] at hwt ⊢
      omega
    · refine ⟨u, us, by rw [hu], by rw [← hlen, ← hu]; simp, ?_, hp, hrf⟩
      rw [hu]
      exact RL_one hcx
    · intro j v hv
      rw [List.getElem?_append] at hv
      split at hv
      · rename_i hj
        have := hget j (by omega)
        rw [add_add] at this
        rw [this]
        exact hv
      · rename_i hj
        have := hc (j - cs.length) v hv
        rw [show k * P.cellsOf e + j = (k + 1) * P.cellsOf e + (j - cs.length) by rw [Nat.add_mul]; omega]
        exact this

theorem reads_slice {e : TypeId} {sz : Nat} {α : Type} {pv : α → PV} {wt : α → Nat} {inv : α → Prop} (ht : P.underlying t = some (.slice e)) (hsz : P.cellsOf e = sz) (he : Reads enc P e pv wt inv) :
    Reads enc P t (fun x : Bool × List α => .list sz x.1 (x.2.map pv)) (fun x => 1 + sumWt wt x.2) (fun x => (x.1 = true → x.2 = []) ∧ x.2.length ≤ maxLen ∧ ∀ y ∈ x.2, inv y) := by
  intro w fuel cs d ps h
  rcases DataW.trod_slice ht h with ⟨rfl, e⟩ | ⟨a, len, cap, elems, rest, n, _, rfl, e, h1, h2, h3, h4, h5, _⟩
  · simp only [Prod.mk.injEq] at e
    obtain ⟨rfl, rfl⟩ := e
    exact ⟨(true, []), ⟨fun _ => rfl, by simp, by simp⟩, by simp [uptoBulk, sumWt], _, [], rfl, rfl, ⟨none, 0, [], rfl, Nat.le_refl _, by simp [maxLen], fun _ => rfl, by simp, rfl, fun k u hu => by simp at hu⟩, rfl⟩
  · simp only [Prod.mk.injEq] at e
    obtain ⟨rfl, rfl⟩ := e
    obtain ⟨xs, us, hl, hi, hwt, hrf, hcell⟩ := elems_ok he 0 elems fun i hi => by
      have := h5 i (by omega)
      rwa [Nat.zero_add]
    refine ⟨(false, xs), ⟨fun e => (by cases e), by simp only; omega, hi⟩, ?_, _, [], rfl, rfl, ⟨some a, cap, us, by simp only [List.length_map]; rw [hl, h4], by simp only [List.length_map]; omega, h3, fun e => (by cases e), by simp, hsz ▸ hrf, fun k u hu => ⟨a, rfl, rfl, ?_⟩⟩, rfl⟩
    · simp only [uptoBulk]
      omega
    · have := hcell k u hu
      simpa using this

/-- The fields of a struct, one after the other. -/
def ReadsF {H : Type} (enc : TypeId × Value → H) (P : Program) (l : List TypeId) {α : Type} (pv : α → List PV) (wt : α → Nat) (inv : α → Prop) : Prop :=
  ∀ (w : World) (fuel : Nat) (fs : List (Nat × TypeId)) (off : Nat) (cs : List Value) (rs : List (DataW H × List MemPlace)), fs.map (·.2) = l →
    (∀ i f, fs[i]? = some f → f.1 = off + ((l.take i).map P.cellsOf).sum) → cs.length = off + (l.map P.cellsOf).sum →
    (fs.mapM fun f => DataW.trod enc P w 0 (fun _ => true) true fuel f.2 ((cs.drop f.1).take (P.cellsOf f.2))) = some rs →
    ∃ x, inv x ∧ wt x ≤ uptoBulkAll (rs.map (·.1)) ∧ RL allImm w (pv x) (cs.drop off)

theorem readsF_nil : ReadsF enc P [] (fun _ : Unit => []) (fun _ => 0) (fun _ => True) := by
  intro w fuel fs off cs rs hfs _ hcs h
  refine ⟨(), trivial, Nat.zero_le _, ?_⟩
  have : cs.drop off = [] := List.drop_eq_nil_of_le (by simp at hcs; omega)
  rw [this]
  rfl

theorem readsF_cons {l : List TypeId} {α β : Type} {pv : α → PV} {wt : α → Nat} {inv : α → Prop} {pvs : β → List PV} {wts : β → Nat} {invs : β → Prop}
    (h0 : Reads enc P t pv wt inv) (h1 : ReadsF enc P l pvs wts invs) :
    ReadsF enc P (t :: l) (fun x : α × β => (pv x.1).cells ++ pvs x.2) (fun x => wt x.1 + wts x.2) (fun x => inv x.1 ∧ invs x.2) := by
  intro w fuel fs off cs rs hfs hoff hcs h
  cases fs with
  | nil => simp at hfs
  | cons f fs =>
    simp only [List.map_cons, List.cons.injEq] at hfs
    obtain ⟨hf, hfs⟩ := hfs
    rw [List.mapM_cons] at h
    simp only [Option.bind_eq_bind, Option.bind_eq_some_iff] at h
    obtain ⟨r, hr, rs', hrs, hh⟩ := h
    have hh : rs = r :: rs' := by simpa using hh.symm
    subst hh
    obtain ⟨d, ps⟩ := r
    have hf1 : f.1 = off := by simpa using hoff 0 f rfl
    rw [hf, hf1] at hr
    obtain ⟨x, hx, hwx, hcx⟩ := h0 w fuel _ d ps hr
    obtain ⟨y, hy, hwy, hcy⟩ := h1 w fuel fs (off + P.cellsOf t) cs rs' hfs (fun i g hg => by
      have := hoff (i + 1) g (by simpa using hg)
      simp only [List.take_succ_cons, List.map_cons, List.sum_cons] at this
      omega) (by simp only [List.map_cons, List.sum_cons] at hcs; omega) hrs
    refine ⟨(x, y), ⟨hx, hy⟩, ?_, ?_⟩
    · simp only [List.map_cons, uptoBulkAll]
      omega
    · have : cs.drop off = (cs.drop off).take (P.cellsOf t) ++ cs.drop (off + P.cellsOf t) := by rw [← List.drop_drop, List.take_append_drop]
      rw [this]
      exact RL_append hcx hcy

theorem mapM_congr' {α β γ : Type} {f : α → Option γ} {g : β → Option γ} (m : α → β) (h : ∀ x, f x = g (m x)) : ∀ l : List α, l.mapM f = (l.map m).mapM g
  | [] => rfl
  | x :: l => by rw [List.map_cons, List.mapM_cons, List.mapM_cons, h x, mapM_congr' m h l]

theorem trod_struct_m {fs : Array Field} {w : World} {fuel : Nat} {cs : List Value} {x : DataW H × List MemPlace} (ht : P.underlying t = some (.struct fs)) (h : DataW.trod enc P w 0 (fun _ => true) true fuel t cs = some x) :
    ∃ (n : Nat) (rs : List (DataW H × List MemPlace)), cs.length = P.cellsOf t ∧ (fs.toList.mapM fun f => DataW.trod enc P w 0 (fun _ => true) true n f.type ((cs.drop f.offset).take (P.cellsOf f.type))) = some rs ∧ x = (.agg (rs.map (·.1)), rs.flatMap (·.2)) := by
  cases fuel with
  | zero => simp [DataW.trod] at h
  | succ n =>
    unfold DataW.trod at h
    rw [ht] at h
    split at h <;> simp_all
    obtain ⟨hl, xs, hp, hd⟩ := h
    exact ⟨n, xs, hp, hd.symm⟩

theorem trod_array_m {k : Nat} {e : TypeId} {w : World} {fuel : Nat} {cs : List Value} {x : DataW H × List MemPlace} (ht : P.underlying t = some (.array k e)) (h : DataW.trod enc P w 0 (fun _ => true) true fuel t cs = some x) :
    ∃ (n : Nat) (rs : List (DataW H × List MemPlace)), cs.length = P.cellsOf t ∧ ((List.range k).mapM fun i => DataW.trod enc P w 0 (fun _ => true) true n e ((cs.drop (i * P.cellsOf e)).take (P.cellsOf e))) = some rs ∧ x = (.agg (rs.map (·.1)), rs.flatMap (·.2)) := by
  cases fuel with
  | zero => simp [DataW.trod] at h
  | succ n =>
    unfold DataW.trod at h
    rw [ht] at h
    split at h <;> simp_all
    obtain ⟨hl, xs, hp, hd⟩ := h
    exact ⟨n, xs, hp, hd.symm⟩

theorem reads_struct {fields : Array Field} {l : List TypeId} {α : Type} {pv : α → List PV} {wt : α → Nat} {inv : α → Prop} (ht : P.underlying t = some (.struct fields))
    (hl : fields.toList.map (·.type) = l) (hsz : P.cellsOf t = (l.map P.cellsOf).sum)
    (hoff : (List.range l.length).all (fun i => ((fields.toList.map (·.offset))[i]?.getD 0) == ((l.take i).map P.cellsOf).sum) = true) (h1 : ReadsF enc P l pv wt inv) :
    Reads enc P t (fun x => .agg (pv x)) (fun x => 1 + wt x) inv := by
  intro w fuel cs d ps h
  obtain ⟨n, rs, hlen, hrs, e0⟩ := trod_struct_m ht h
  simp only [Prod.mk.injEq] at e0
  obtain ⟨rfl, rfl⟩ := e0
  have e := mapM_congr' (f := fun f : Field => DataW.trod enc P w 0 (fun _ => true) true n f.type ((cs.drop f.offset).take (P.cellsOf f.type)))
    (g := fun f : Nat × TypeId => DataW.trod enc P w 0 (fun _ => true) true n f.2 ((cs.drop f.1).take (P.cellsOf f.2))) (fun f : Field => (f.offset, f.type)) (fun _ => rfl) fields.toList
  rw [e] at hrs
  have := h1 w n (fields.toList.map fun f => (f.offset, f.type)) 0 cs rs (by rw [List.map_map]; exact hl) (fun i f hf => by
    have hi : i < l.length := by
      have := (List.getElem?_eq_some_iff.1 hf).1
      rw [← hl]; simpa using this
    have := List.all_eq_true.1 hoff i (List.mem_range.2 hi)
    simp only [beq_iff_eq] at this
    rw [Nat.zero_add, ← this]
    rw [List.getElem?_map] at hf ⊢
    cases hfi : fields.toList[i]? with
    | none => rw [hfi] at hf; cases hf
    | some f' => rw [hfi] at hf; simp at hf ⊢; rw [← hf]) (by rw [hlen, hsz]; omega) hrs
  obtain ⟨x, hx, hw, hc⟩ := this
  refine ⟨x, hx, ?_, hc⟩
  simp only [uptoBulk]
  omega

/-- An array's elements. -/
theorem reads_array {e : TypeId} {n : Nat} {α : Type} {pv : α → PV} {wt : α → Nat} {inv : α → Prop} (ht : P.underlying t = some (.array n e)) (hsz : P.cellsOf t = n * P.cellsOf e) (he : Reads enc P e pv wt inv) :
    Reads enc P t (fun xs : List α => .agg (xs.flatMap fun x => (pv x).cells)) (fun xs => 1 + sumWt wt xs) (fun xs => xs.length = n ∧ ∀ y ∈ xs, inv y) := by
  intro w fuel cs d ps h
  obtain ⟨m, rs, hlen, hrs, e0⟩ := trod_array_m ht h
  simp only [Prod.mk.injEq] at e0
  obtain ⟨rfl, rfl⟩ := e0
  have key : ∀ (n k : Nat) (rs : List (DataW H × List MemPlace)), cs.length = (k + n) * P.cellsOf e →
      ((List.range' k n).mapM fun i => DataW.trod enc P w 0 (fun _ => true) true m e ((cs.drop (i * P.cellsOf e)).take (P.cellsOf e))) = some rs →
      ∃ xs : List α, xs.length = n ∧ (∀ x ∈ xs, inv x) ∧ sumWt wt xs ≤ uptoBulkAll (rs.map (·.1)) ∧ RL allImm w (xs.flatMap fun x => (pv x).cells) (cs.drop (k * P.cellsOf e)) := by
    intro n
    induction n with
    | zero =>
      intro k rs hl h
      refine ⟨[], rfl, by simp, by simp [sumWt], ?_⟩
      rw [List.drop_eq_nil_of_le (by rw [hl]; simp)]
      rfl
    | succ n ih =>
      intro k rs hl h
      rw [List.range'_succ, List.mapM_cons] at h
      simp only [Option.bind_eq_bind, Option.bind_eq_some_iff] at h
      obtain ⟨r, hr, rs', hrs, hh⟩ := h
      have hh : rs = r :: rs' := by simpa using hh.symm
      subst hh
      obtain ⟨d, ps⟩ := r
      obtain ⟨x, hx, hwx, hcx⟩ := he w m _ d ps hr
      obtain ⟨xs, hl', hi, hwt, hrl⟩ := ih (k + 1) rs' (by rw [hl]; congr 1; omega) hrs
      refine ⟨x :: xs, by simp [hl'], ?_, ?_, ?_⟩
      · intro y hy
        rcases List.mem_cons.1 hy with rfl | hy
        · exact hx
        · exact hi y hy
      · simp only [sumWt, List.map_cons, List.sum_cons, uptoBulkAll] at hwt ⊢
        omega
      · have : cs.drop (k * P.cellsOf e) = (cs.drop (k * P.cellsOf e)).take (P.cellsOf e) ++ cs.drop ((k + 1) * P.cellsOf e) := by
          rw [Nat.add_mul, Nat.one_mul, ← List.drop_drop, List.take_append_drop]
        rw [this, List.flatMap_cons]
        exact RL_append hcx hrl
  rw [List.range_eq_range'] at hrs
  obtain ⟨xs, hl, hi, hwt, hrl⟩ := key n 0 rs (by rw [hlen, hsz]; simp) hrs
  refine ⟨xs, ⟨hl, hi⟩, ?_, by simpa [PV.cells] using hrl⟩
  simp only [uptoBulk]
  omega

/-- The argument's value lies in one cell. -/
def oneT (P : Program) (t : TypeId) : Bool :=
  match P.underlying t with
  | some .bool | some .string | some (.int _) | some (.slice _) => true
  | _ => false

/-- An argument, whole. -/
def ReadsArg {H : Type} (enc : TypeId × Value → H) (P : Program) (t : TypeId) {α : Type} (pv : α → PV) (wt : α → Nat) (inv : α → Prop) : Prop :=
  ∀ (w : World) (v : Value) (d : DataW H) (ps : List MemPlace) (b : Nat), Value.okWide P w .any b t v → DataW.Trod enc P w 0 (fun _ => true) true t v d ps → ∃ x, inv x ∧ wt x ≤ uptoBulk d ∧ RP allImm w (pv x) v

theorem Reads.one {α : Type} {pv : α → PV} {wt : α → Nat} {inv : α → Prop} (h : Reads enc P t pv wt inv) (hp : oneT P t = true) (h1 : ∀ x, (pv x).cells = [pv x]) : ReadsArg enc P t pv wt inv := by
  intro w v d ps b hv ⟨fuel, hf⟩
  obtain ⟨x, hx, hw, hc⟩ := h w fuel _ d ps hf
  refine ⟨x, hx, hw, ?_⟩
  have e : v.cells.toList = [v] := by
    cases v with
    | agg cs =>
      exfalso
      unfold oneT at hp
      unfold Value.okWide Cell.okWide Cell.ok at hv
      split at hp <;> rename_i he <;> first | cases hp; done | (rw [he] at hv; exact hv)
    | _ => rfl
  rw [e, h1 x] at hc
  obtain ⟨u, r, h2, h3, h4, h5⟩ := hc
  simp only [List.cons.injEq] at h2
  rw [h2.1]
  exact h4

theorem Reads.agg {α : Type} {pv : α → List PV} {wt : α → Nat} {inv : α → Prop} (h : Reads enc P t (fun x => .agg (pv x)) wt inv) (hp : isAggT P t = true) : ReadsArg enc P t (fun x => .agg (pv x)) wt inv := by
  intro w v d ps b hv ⟨fuel, hf⟩
  obtain ⟨x, hx, hw, hc⟩ := h w fuel _ d ps hf
  refine ⟨x, hx, hw, ?_⟩
  have e : ∃ cs, v = .agg cs := by
    unfold isAggT at hp
    unfold Value.okWide at hv
    split at hp <;> rename_i he <;> first | cases hp; done | (rw [he] at hv; obtain ⟨cs, rfl, _⟩ := hv; exact ⟨cs, rfl⟩)
  obtain ⟨cs, rfl⟩ := e
  exact ⟨cs.toList, by simp, hc⟩

open Go.ChangeShapes in
/-- **A law that gives true**: what the row asks, out of the contract. -/
theorem law_post {f : FuncId} {fn : Func} {s : ChangeSpec} {tb : TypeId} {W : World} {args : Array Value} {ds gs : List (DataW H)} {before : List MemPlace} {svs : List SV}
    (hl : laidOutB P = true) (hrr : fn.params.toList.all (fun t => P.readableRec t && decide (t < P.types.size)) = true) (hvars : s.vars = []) (hres : fn.resultTypes = #[tb]) (htb : P.underlying tb = some .bool)
    (hfn : s.fn H (ds ++ gs) = { results := [.lit (.bool true)], args := ds })
    (hW : DataW.Whole enc P fn.params.toList s.vars false W args.toList ds gs before)
    (hargs : RTL allImm W (fun _ => none) svs args.toList)
    (h : CallOk P f svs [] fun r st' => r = vB true ∧ st' = []) (hfn' : isFn P f := by exact ⟨_, rfl, rfl, rfl⟩) :
    Calls P f args W fun e W' => ∃ v, e = .returned v ∧ s.post enc P fn false true false false W args v W' := by
  have := (h allImm (fun _ => none) W args.toList hargs (fun o ob ho => by simp at ho) (fun _ _ => rfl)).calls hfn'
  refine this.mono ?_
  rintro e W' ⟨r, v, st', χ', G', ⟨rfl, rfl⟩, rfl, hr, _, hfr, _, _, _⟩
  have hv : v = .bool true := hr
  subst hv
  have hb : Below W.heap.size W W' := ⟨hfr.os, hfr.tape, hfr.output, hfr.size, fun k hk => (hfr.imm k hk rfl).2⟩
  refine ⟨_, rfl, ?_⟩
  have hW' := hW
  obtain ⟨p, q, hA, hV, hpq, hfz, hnd⟩ := hW
  rw [hvars] at hV
  obtain ⟨rfl, rfl⟩ := trodVars_none hV
  have hlt : ∀ x ∈ p, x.block < W.heap.size := fun x hx => hW'.lt x (by rw [hpq]; simpa using hx)
  refine post_of_below (pa := p) (pv := []) hW' (fun _ _ _ => ?_) (fun sp hsp => ?_) (fun _ _ => ?_) (by rw [hpq]) hb (ok_one hres rfl (okWide_bool_mk htb true))
  · rw [hfn, hres]
    exact trodAll_mk1 (shut_bool htb true)
  · rw [hfn]
    have hsp' : ∀ x ∈ p, sp x.block = true := fun x hx => hsp x (by rw [hpq]; simpa using hx)
    have key : ∀ (ts : List TypeId) (vs : List Value) (ds : List (DataW H)) (p : List MemPlace), ts.all (fun t => P.readableRec t && decide (t < P.types.size)) = true →
        DataW.TrodAll enc P W 0 (fun _ => true) true ts vs ds p → (∀ x ∈ p, x.block < W.heap.size) → (∀ x ∈ p, sp x.block = true) → DataW.TrodAll enc P W' 0 sp true ts vs ds p := by
      intro ts
      induction ts with
      | nil =>
        intro vs ds p _ h _ _
        cases vs <;> cases ds <;> first | exact h | exact h.elim
      | cons t ts ih =>
        intro vs ds p hall h hlt hsp
        cases vs with
        | nil => cases ds <;> exact h.elim
        | cons v vs =>
          cases ds with
          | nil => exact h.elim
          | cons d ds =>
            obtain ⟨p0, q0, h0, h1, rfl⟩ := h
            simp only [List.all_cons, Bool.and_eq_true, decide_eq_true_eq] at hall
            exact ⟨p0, q0, WideElems.Trod_stays hl hall.1.1 hall.1.2 h0 (fun x hx => hb.same (hlt x (by simp [hx]))) (fun x hx => hsp x (by simp [hx])),
              ih vs ds q0 (by simpa using hall.2) h1 (fun x hx => hlt x (by simp [hx])) (fun x hx => hsp x (by simp [hx])), rfl⟩
    exact key _ _ _ _ hrr hA hlt hsp'
  · rw [hfn, hvars]
    rfl

end
end Go.Sy
