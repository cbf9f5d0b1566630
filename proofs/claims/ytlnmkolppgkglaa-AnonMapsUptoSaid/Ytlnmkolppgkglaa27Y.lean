/- AnonMaps: the program maps addresses and undoes it as the reference does, and the one undoes the other: for every key, keepers and address where what is read is of bulk at most 1048576 the law gives true. No condition beside that bound, which the statement itself bears. -/
import Derived.Test.Ytlnmkolppgkglaa27N
set_option linter.all false
set_option maxRecDepth 100000
namespace Go.Proofs.Ytlnmkolppgkglaa
open Go Go.RowKit Go.Sy Go.Proofs Go.ChangeShapes Go.WideShapes Go.ChangeAt

section
variable {H : Type} {enc : TypeId × Value → H}
theorem r5 : Reads enc Try.prog 5 (fun n : Int => .val (.int .u8 n)) (fun _ => 1) (fun n => IntKind.u8.min ≤ n ∧ n ≤ IntKind.u8.max) := reads_int Try.underlying5
theorem r3 : Reads enc Try.prog 3 (fun n : Int => .val (.int .i64 n)) (fun _ => 1) (fun n => IntKind.i64.min ≤ n ∧ n ≤ IntKind.i64.max) := reads_int Try.underlying3
def r22 := reads_slice (sz := 1) Try.underlying22 (by kernel_rfl) (r5 (H := H) (enc := enc))
def r23 := reads_slice (sz := 1) Try.underlying23 (by kernel_rfl) (r22 (H := H) (enc := enc))
def r24 := reads_slice (sz := 1) Try.underlying24 (by kernel_rfl) (r3 (H := H) (enc := enc))
def r26 := reads_struct (l := [22, 23, 24]) Try.underlying26 rfl (by kernel_rfl) rfl (readsF_cons (r22 (H := H) (enc := enc)) (readsF_cons (r23 (H := H) (enc := enc)) (readsF_cons (r24 (H := H) (enc := enc)) readsF_nil)))
def a22 := (r22 (H := H) (enc := enc)).one (by kernel_rfl) (fun _ => rfl)
def a26 := (r26 (H := H) (enc := enc)).agg (by kernel_rfl)
end

theorem sumWt_const {α : Type} (l : List α) : sumWt (fun _ : α => 1) l = l.length := by
  induction l with
  | nil => rfl
  | cons x l ih => simp only [sumWt, List.map_cons, List.sum_cons, List.length_cons] at ih ⊢; omega
theorem sumWt_ads : ∀ l : List (Bool × List Int), sumWt (fun x : Bool × List Int => 1 + x.2.length) l = l.length + sumL l
  | [] => rfl
  | x :: l => by
    have := sumWt_ads l
    simp only [sumWt, sumL, List.map_cons, List.sum_cons, List.length_cons] at *
    omega

/-- A rule as it is read. -/
def ruleOf (x : (Bool × List Int) × (Bool × List (Bool × List Int)) × (Bool × List Int) × Unit) : Rule := ⟨x.1.1, x.1.2, x.2.1.1, x.2.1.2, x.2.2.1.1, x.2.2.1.2⟩

theorem own : ownKnob Try.prog.godebug = none := by kernel_rfl

theorem contract (H : Type) (enc : TypeId × Value → H) (W : World) (base : Nat) (args : Array Value) (ds gs : List (DataW H)) (before : List MemPlace)
    (hval : ∀ (j : Nat) t v, Try.f4.params[j]? = some t → args[j]? = some v → Value.okWide Try.prog W .any base t v)
    (hW : DataW.Whole enc Try.prog Try.f4.params.toList Rows.anonMapsSpec.vars false W args.toList ds gs before) (hk : Rows.uptoSmall H (ds ++ gs) = true) :
    Calls Try.prog 4 args W fun e W' => ∃ v, e = .returned v ∧ Rows.anonMapsSpec.post enc Try.prog Try.f4 false true false false W args v W' := by
  have hW' := hW
  obtain ⟨p, q, hA0, hV, rfl, hfz, hnd⟩ := hW
  have hA : DataW.TrodAll enc Try.prog W 0 (fun _ => true) true Try.f4.params.toList args.toList ds p := hA0
  rw [Try.params4] at hA hval
  obtain ⟨v0, vs0, d0, ds0, p0, q0, hargs, rfl, rfl, h0, hr0⟩ := trodAll_cons hA
  obtain ⟨v1, vs1, d1, ds1, p1, q1, hargs1, rfl, rfl, h1, hr1⟩ := trodAll_cons hr0
  obtain ⟨rfl, rfl, rfl⟩ := trodAll_nil hr1
  obtain rfl : args = #[v0, v1] := by cases args; simp_all
  obtain ⟨rfl, rfl⟩ := trodVars_none hV
  have hb : Rows.uptoBulkAll [d0, d1] ≤ 1048576 := by
    have := of_decide_eq_true hk
    simpa using this
  simp only [Rows.uptoBulkAll] at hb
  obtain ⟨x, i0, w0, c0⟩ := a26 (H := H) (enc := enc) W v0 d0 p0 base (hval 0 26 v0 rfl rfl) h0
  obtain ⟨a, i1, w1, c1⟩ := a22 (H := H) (enc := enc) W v1 d1 p1 base (hval 1 22 v1 rfl rfl) h1
  simp only [sumWt_const, sumWt_ads] at w0 w1
  have bts : ∀ l : List Int, (∀ y ∈ l, IntKind.u8.min ≤ y ∧ y ≤ IntKind.u8.max) → Bts l := fun l h y hy => by
    have := h y hy
    have e1 : IntKind.u8.min = 0 := rfl
    have e2 : IntKind.u8.max = 255 := rfl
    omega
  have hw : (ruleOf x).wt + a.2.length ≤ 1048576 := by
    unfold Rule.wt ruleOf
    simp only
    omega
  have ok := AnonMaps_ok (ruleOf x) a.1 a.2 (by omega) i1.1 (bts _ i1.2.2) (fun y hy => bts _ (i0.2.1.2.2 y hy).2.2)
  refine law_post (f := 4) (fn := Try.f4) (s := Rows.anonMapsSpec) (tb := 4) (svs := [.pure (ruleOf x).pv, Sy.bts a.1 a.2]) (by kernel_rfl) (by kernel_rfl) rfl (by kernel_rfl) Try.underlying4 rfl hW' ⟨v0, _, rfl, c0, v1, _, rfl, c1, rfl⟩ (ok.mono fun r st' h => ⟨h.2, h.1⟩)

set_option maxRecDepth 100000 in
theorem lifted (os : Os) (started : os.Started) (H : Type) (enc : TypeId × Value → H) (F : Stop.Interp) :
    ReturnsInHanded {} Try.checked os 4 .any ((Rows.OpenSpec.upto Rows.anonMapsSpec).pre6 enc Try.prog Try.f4 Rows.anonMapsUptoRow.domain false) (((Rows.OpenSpec.upto Rows.anonMapsSpec).at F).post enc Try.prog Try.f4 false true false false) := by
  refine returnsInHanded_of_cond (C := Try.checked) (s := Rows.OpenSpec.upto Rows.anonMapsSpec) (k := Rows.uptoSmall) rfl own started (by kernel_rfl) Try.func4
    (OpenSpec.witness (enc := enc) (C := Try.checked) (s := Rows.OpenSpec.upto Rows.anonMapsSpec) (k := Rows.uptoSmall) rfl false ⟨#[], #[.agg #[.slice none 0 0, .slice none 0 0, .slice none 0 0], .slice none 0 0], []⟩ 8 (by kernel_rfl) (by kernel_rfl) (by kernel_rfl)
      (x := ([.agg [.nil, .nil, .nil], .nil], [], [])) (by kernel_rfl) rfl (by kernel_rfl)) ?_
  intro W base args ds gs before hval hW _ hk _
  exact contract H enc W base args ds gs before hval hW hk

theorem AnonMaps_holds : Rows.AnonMapsUptoSaid :=
  OpenClaim.holds_of_cond 4 Try.f4 rfl rfl rfl rfl rfl rfl rfl ⟨rfl, rfl, rfl, rfl, rfl⟩ rfl rfl rfl rfl rfl (by kernel_rfl) Try.func4 (by kernel_rfl)
    (of_decide_eq_true (by kernel_rfl)) (by unfold Func.isWrapper; first | (rw [if_pos (by decide +kernel)]; kernel_rfl) | (rw [if_neg (by decide +kernel)]; exact ⟨rfl, rfl⟩))
    (fun os started H enc _ F => lifted os started H enc F)
#print axioms AnonMaps_holds
end Go.Proofs.Ytlnmkolppgkglaa
