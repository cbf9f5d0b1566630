/- AnonTables: the program's pairs of addresses and those to which they are mapped, and whether there is a map for pairs, are the reference's: for every key, keepers, addresses and pairs where what is read is of bulk at most 1048576 the law gives true. No condition beside that bound, which the statement itself bears. -/
import Derived.Test.Ytlnmkolppgkglaa28F
set_option linter.all false
set_option maxHeartbeats 4000000
set_option maxRecDepth 100000
namespace Go.Proofs.Ytlnmkolppgkglaa
open Go Go.RowKit Go.Sy Go.Proofs Go.ChangeShapes Go.WideShapes Go.ChangeAt

section
variable {H : Type} {enc : TypeId × Value → H}
theorem r5 : Reads enc Try.prog 5 (fun n : Int => .val (.int .u8 n)) (fun _ => 1) (fun n => IntKind.u8.min ≤ n ∧ n ≤ IntKind.u8.max) := reads_int Try.underlying5
theorem r3 : Reads enc Try.prog 3 (fun n : Int => .val (.int .i64 n)) (fun _ => 1) (fun n => IntKind.i64.min ≤ n ∧ n ≤ IntKind.i64.max) := reads_int Try.underlying3
def r22 := reads_slice (sz := 1) Try.underlying22 (by kernel_rfl) (r5 (H := H) (enc := enc))
def r23 := reads_slice (sz := 1) Try.underlying23 (by kernel_rfl) (r22 (H := H) (enc := enc))
def r24 := reads_slice (sz := 1) Try.underlying24 (by kernel_rfl) (r3 (H := H) (enc := enc))
def r43 := reads_array (n := 2) Try.underlying43 (by kernel_rfl) (r22 (H := H) (enc := enc))
def r41 := reads_slice (sz := 2) Try.underlying41 (by kernel_rfl) (r43 (H := H) (enc := enc))
def r26 := reads_struct (l := [22, 23, 24]) Try.underlying26 rfl (by kernel_rfl) rfl (readsF_cons (r22 (H := H) (enc := enc)) (readsF_cons (r23 (H := H) (enc := enc)) (readsF_cons (r24 (H := H) (enc := enc)) readsF_nil)))
def a22 := (r22 (H := H) (enc := enc)).one (by kernel_rfl) (fun _ => rfl)
def a23 := (r23 (H := H) (enc := enc)).one (by kernel_rfl) (fun _ => rfl)
def a41 := (r41 (H := H) (enc := enc)).one (by kernel_rfl) (fun _ => rfl)
def a26 := (r26 (H := H) (enc := enc)).agg (by kernel_rfl)
end

theorem sumWt_const {α : Type} (l : List α) : sumWt (fun _ : α => 1) l = l.length := by
  induction l with
  | nil => rfl
  | cons x l ih => simp only [sumWt, List.map_cons, List.sum_cons, List.length_cons] at ih ⊢; omega
theorem sumWt_ads : ∀ l : List (Bool × List Int), sumWt (fun x : Bool × List Int => 1 + x.2.length) l = l.length + sumL l
  | [] => rfl
  | x :: l => by
    have := sumWt_ads l
    simp only [sumWt, sumL, List.map_cons, List.sum_cons, List.length_cons] at *
    omega

/-- A pair as it is read. -/
def toP (xs : List BV) : BP := (xs.getD 0 dfB, xs.getD 1 dfB)
theorem toP_pv {xs : List BV} (h : xs.length = 2) : PV.agg (xs.flatMap fun x => (PV.list 1 x.1 (x.2.map fun n : Int => .val (.int .u8 n))).cells) = pvp (toP xs) := by
  match xs, h with
  | [x, y], _ => rfl
theorem sumWt_pairs : ∀ {l : List (List BV)}, (∀ y ∈ l, y.length = 2) → (l.map toP).length + sumP (l.map toP) ≤ sumWt (fun xs : List BV => 1 + sumWt (fun x : BV => 1 + sumWt (fun _ : Int => 1) x.2) xs) l
  | [], _ => by simp [sumP, sumWt]
  | xs :: l, h => by
    have ih := sumWt_pairs (l := l) fun y hy => h y (by simp [hy])
    match xs, h xs (by simp) with
    | [x, y], _ =>
      simp only [sumWt, sumP, List.map_cons, List.sum_cons, List.length_cons, List.map_nil, List.sum_nil, toP, List.getD_cons_zero, List.getD_cons_succ] at ih ⊢
      have e1 : (x.2.map fun _ : Int => 1).sum = x.2.length := by have := sumWt_const x.2; simpa [sumWt] using this
      have e2 : (y.2.map fun _ : Int => 1).sum = y.2.length := by have := sumWt_const y.2; simpa [sumWt] using this
      rw [e1, e2]
      omega

/-- A rule as it is read. -/
def ruleOf (x : (Bool × List Int) × (Bool × List (Bool × List Int)) × (Bool × List Int) × Unit) : Rule := ⟨x.1.1, x.1.2, x.2.1.1, x.2.1.2, x.2.2.1.1, x.2.2.1.2⟩

theorem own : ownKnob Try.prog.godebug = none := by kernel_rfl

theorem contract (H : Type) (enc : TypeId × Value → H) (W : World) (base : Nat) (args : Array Value) (ds gs : List (DataW H)) (before : List MemPlace)
    (hval : ∀ (j : Nat) t v, Try.f5.params[j]? = some t → args[j]? = some v → Value.okWide Try.prog W .any base t v)
    (hW : DataW.Whole enc Try.prog Try.f5.params.toList Rows.anonTablesSpec.vars false W args.toList ds gs before) (hk : Rows.uptoSmall H (ds ++ gs) = true) :
    Calls Try.prog 5 args W fun e W' => ∃ v, e = .returned v ∧ Rows.anonTablesSpec.post enc Try.prog Try.f5 false true false false W args v W' := by
  have hW' := hW
  obtain ⟨p, q, hA0, hV, rfl, hfz, hnd⟩ := hW
  have hA : DataW.TrodAll enc Try.prog W 0 (fun _ => true) true Try.f5.params.toList args.toList ds p := hA0
  rw [Try.params5] at hA hval
  obtain ⟨v0, vs0, d0, ds0, p0, q0, hargs, rfl, rfl, h0, hr0⟩ := trodAll_cons hA
  obtain ⟨v1, vs1, d1, ds1, p1, q1, hargs1, rfl, rfl, h1, hr1⟩ := trodAll_cons hr0
  obtain ⟨v2, vs2, d2, ds2, p2, q2, hargs2, rfl, rfl, h2, hr2⟩ := trodAll_cons hr1
  obtain ⟨rfl, rfl, rfl⟩ := trodAll_nil hr2
  obtain rfl : args = #[v0, v1, v2] := by cases args; simp_all
  obtain ⟨rfl, rfl⟩ := trodVars_none hV
  have hb : Rows.uptoBulkAll [d0, d1, d2] ≤ 1048576 := by
    have := of_decide_eq_true hk
    simpa using this
  simp only [Rows.uptoBulkAll] at hb
  obtain ⟨x, i0, w0, c0⟩ := a26 (H := H) (enc := enc) W v0 d0 p0 base (hval 0 26 v0 rfl rfl) h0
  obtain ⟨a, i1, w1, c1⟩ := a23 (H := H) (enc := enc) W v1 d1 p1 base (hval 1 23 v1 rfl rfl) h1
  obtain ⟨ps, i2, w2, c2⟩ := a41 (H := H) (enc := enc) W v2 d2 p2 base (hval 2 41 v2 rfl rfl) h2
  have hps := sumWt_pairs (l := ps.2) fun y hy => (i2.2.2 y hy).1
  simp only [sumWt_const, sumWt_ads] at w0 w1
  have w2' : 1 + sumWt (fun xs : List BV => 1 + sumWt (fun x : BV => 1 + sumWt (fun _ : Int => 1) x.2) xs) ps.2 ≤ _ := w2
  have bts : ∀ l : List Int, (∀ y ∈ l, IntKind.u8.min ≤ y ∧ y ≤ IntKind.u8.max) → Bts l := fun l h y hy => by
    have := h y hy
    have e1 : IntKind.u8.min = 0 := rfl
    have e2 : IntKind.u8.max = 255 := rfl
    omega
  have hw : (ruleOf x).wt + (a.2.length + sumL a.2) + ((ps.2.map toP).length + sumP (ps.2.map toP)) ≤ 1048576 := by
    unfold Rule.wt ruleOf
    simp only
    omega
  have c2' : RP allImm W (.list 2 ps.1 ((ps.2.map toP).map pvp)) v2 := by
    have e : ps.2.map (fun xs : List BV => PV.agg (xs.flatMap fun x => (PV.list 1 x.1 (x.2.map fun n : Int => .val (.int .u8 n))).cells)) = (ps.2.map toP).map pvp := by
      rw [List.map_map]
      exact List.map_congr_left fun y hy => toP_pv (i2.2.2 y hy).1
    rw [← e]
    exact c2
  have ok := AnonTables_ok (ruleOf x) a.1 ps.1 a.2 (ps.2.map toP) (by omega) (fun y hy => (i1.2.2 y hy).1) (fun y hy => bts _ (i1.2.2 y hy).2.2)
    (fun y hy => by
      obtain ⟨xs, hxs, rfl⟩ := List.mem_map.1 hy
      obtain ⟨g1, g2⟩ := i2.2.2 xs hxs
      match xs, g1, g2 with
      | [u, v], _, g2 => exact ⟨bts _ (g2 u (by simp)).2.2, bts _ (g2 v (by simp)).2.2⟩)
    (fun y hy => bts _ (i0.2.1.2.2 y hy).2.2)
  refine law_post (f := 5) (fn := Try.f5) (s := Rows.anonTablesSpec) (tb := 4) (svs := [.pure (ruleOf x).pv, .pure (.list 1 a.1 (a.2.map pvb)), .pure (.list 2 ps.1 ((ps.2.map toP).map pvp))]) (by kernel_rfl) (by kernel_rfl) rfl (by kernel_rfl) Try.underlying4 rfl hW' ⟨v0, _, rfl, c0, v1, _, rfl, c1, v2, _, rfl, c2', rfl⟩ (ok.mono fun r st' h => ⟨h.2, h.1⟩)

set_option maxRecDepth 100000 in
theorem lifted (os : Os) (started : os.Started) (H : Type) (enc : TypeId × Value → H) (F : Stop.Interp) :
    ReturnsInHanded {} Try.checked os 5 .any ((Rows.OpenSpec.upto Rows.anonTablesSpec).pre6 enc Try.prog Try.f5 Rows.anonTablesUptoRow.domain false) (((Rows.OpenSpec.upto Rows.anonTablesSpec).at F).post enc Try.prog Try.f5 false true false false) := by
  refine returnsInHanded_of_cond (C := Try.checked) (s := Rows.OpenSpec.upto Rows.anonTablesSpec) (k := Rows.uptoSmall) rfl own started (by kernel_rfl) Try.func5
    (OpenSpec.witness (enc := enc) (C := Try.checked) (s := Rows.OpenSpec.upto Rows.anonTablesSpec) (k := Rows.uptoSmall) rfl false ⟨#[], #[.agg #[.slice none 0 0, .slice none 0 0, .slice none 0 0], .slice none 0 0, .slice none 0 0], []⟩ 8 (by kernel_rfl) (by kernel_rfl) (by kernel_rfl)
      (x := ([.agg [.nil, .nil, .nil], .nil, .nil], [], [])) (by kernel_rfl) rfl (by kernel_rfl)) ?_
  intro W base args ds gs before hval hW _ hk _
  exact contract H enc W base args ds gs before hval hW hk

theorem AnonTables_holds : Rows.AnonTablesUptoSaid :=
  OpenClaim.holds_of_cond 5 Try.f5 rfl rfl rfl rfl rfl rfl rfl ⟨rfl, rfl, rfl, rfl, rfl⟩ rfl rfl rfl rfl rfl (by kernel_rfl) Try.func5 (by kernel_rfl)
    (of_decide_eq_true (by kernel_rfl)) (by unfold Func.isWrapper; first | (rw [if_pos (by decide +kernel)]; kernel_rfl) | (rw [if_neg (by decide +kernel)]; exact ⟨rfl, rfl⟩))
    (fun os started H enc _ F => lifted os started H enc F)
#print axioms AnonTables_holds
end Go.Proofs.Ytlnmkolppgkglaa
