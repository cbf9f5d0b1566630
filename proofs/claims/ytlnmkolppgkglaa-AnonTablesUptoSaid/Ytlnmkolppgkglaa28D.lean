/- law27: is there a map for pairs: the program's and the reference's answer. -/
import Derived.Test.Ytlnmkolppgkglaa28C
import Derived.Test.Ytlnmkolppgkglaa27N
set_option linter.all false
set_option maxHeartbeats 4000000
set_option maxRecDepth 100000
namespace Go.Proofs.Ytlnmkolppgkglaa
open Go Go.RowKit Go.Sy Go.Proofs Go.Sort

abbrev BP := BV × BV
def pvp (p : BP) : PV := .agg [.list 1 p.1.1 (u8s p.1.2), .list 1 p.2.1 (u8s p.2.2)]
def badP (p : BP) : Bool := !isAd p.1.2 || !isAd p.2.2
def okQ (p q : BP) : Bool := !decide (q.1.2.length = p.1.2.length) || decide (cmB p.1.2 q.1.2 = cmB p.2.2 q.2.2)
def okP (p : BP) (prev : List BP) : Bool := decide (p.1.2.length = p.2.2.length) && prev.all (okQ p)
abbrev dfP : BP := (dfB, dfB)
def fL (ps : List BP) (i : Nat) : Bool := okP (ps.getD i dfP) (ps.take i)
def lrn (ps : List BP) : Bool := (List.range ps.length).all (fL ps)
def lrnI (ps : List BP) : Bool × Int := if ps.any badP then (false, 1) else if ps.length > 200 then (false, 3) else (lrn ps, 0)
abbrev lrnR (ps : List BP) : SV := .tup [vB (lrnI ps).1, vI .i64 (lrnI ps).2]

theorem lrnR_of {ps : List BP} {x : Bool} {y : Int} (h : lrnI ps = (x, y)) : lrnR ps = .tup [vB x, vI .i64 y] := by unfold lrnR; rw [h]

theorem all_take {α : Type} (f : α → Bool) {l : List α} {j : Nat} {x : α} (h : l[j]? = some x) : (l.take (j + 1)).all f = ((l.take j).all f && f x) := by
  rw [List.take_add_one, h]; simp
theorem all_take_false {α : Type} (f : α → Bool) {l : List α} {i j : Nat} {x : α} (h : l[j]? = some x) (hj : j < i) (hf : f x = false) : (l.take i).all f = false := by
  rw [List.all_eq_false]
  refine ⟨x, ?_, by simp [hf]⟩
  rw [List.mem_iff_getElem?]
  exact ⟨j, by rw [List.getElem?_take, if_pos hj]; exact h⟩
theorem fL_at {ps : List BP} {i : Nat} {p : BP} (h : ps[i]? = some p) : fL ps i = okP p (ps.take i) := by
  unfold fL
  rw [List.getD_eq_getElem?_getD, h]; rfl
theorem range_all {f : Nat → Bool} {i : Nat} (h : (List.range i).all f = true) (hf : f i = true) : (List.range (i + 1)).all f = true := by
  rw [List.range_succ]; simp [h, hf]
theorem range_all_false {f : Nat → Bool} {i n : Nat} (hi : i < n) (hf : f i = false) : (List.range n).all f = false := by
  rw [List.all_eq_false]
  exact ⟨i, by simpa using hi, by simp [hf]⟩
theorem range_all_at {f : Nat → Bool} {i j : Nat} (h : (List.range i).all f = true) (hj : j < i) : f j = true := by
  rw [List.all_eq_true] at h
  exact h j (by simpa using hj)
theorem okP_len {p : BP} {l : List BP} (h : okP p l = true) : p.1.2.length = p.2.2.length := by
  unfold okP at h
  simp only [Bool.and_eq_true, decide_eq_true_eq] at h
  exact h.1

theorem any_false_at {α : Type} {f : α → Bool} {l : List α} (h : l.any f = false) {i : Nat} {x : α} (hx : l[i]? = some x) : f x = false := by
  have := List.any_eq_false.1 h x (List.mem_of_getElem? hx)
  simpa using this

theorem Learn_ok (nl : Bool) (ps : List BP) (hl : (ps.length : Int) ≤ 2000000) :
    CallOk Try.prog 17 [.pure (.list 2 nl (ps.map pvp))] [] fun r st' => st' = [] ∧ r = lrnR ps := by
  refine callOk_of true 0 Try.func17 rfl rfl (Nat.le_refl _) ?_
  conv => whnf
  repeat (first | (refine rest_vc ?_; conv => whnf) | (refine ⟨by decide, ?_⟩; conv => whnf))
  intro _
  conv => whnf
  repeat (first | (refine rest_vc ?_; conv => whnf) | (refine ⟨by decide, ?_⟩; conv => whnf))
  refine awp_loop (n := 74) (α := Nat) (fun i => i ≤ ps.length ∧ (ps.drop i).any badP = ps.any badP) (fun i => [(0, .pure (.list 2 nl (ps.map pvp))), (10, .pure (.list 2 nl (ps.map pvp))), (11, vI .i64 (ps.length : Nat)), (12, vI .i64 i)])
    (fun _ => []) (fun i => ps.length - i) 0 (fun _ => 0)
    ⟨Nat.zero_le _, rfl⟩ rfl ⟨rfl, rfl, congrArg (vI .i64) (by rw [List.length_map]), rfl, trivial⟩ rfl (fun _ _ => rfl) (fun _ => ⟨Nat.le_refl _, rfl, rfl⟩) ?_
  rintro i ⟨hi, hc⟩
  conv => whnf
  repeat (first | (refine rest_vc ?_; conv => whnf) | (refine ⟨by decide, ?_⟩; conv => whnf))
  split <;> rename_i h <;> (conv => whnf) <;> repeat (first | (refine rest_vc ?_; conv => whnf) | (refine ⟨by decide, ?_⟩; conv => whnf))
  · have h := of_decide_eq_true h
    refine ⟨by rw [List.length_map]; omega, fun q hq => ?_⟩
    obtain ⟨p, hp, rfl⟩ := map_get hq
    rw [Int.toNat_natCast] at hp
    have hst := any_step badP ps i p hp
    rw [hst] at hc
    obtain ⟨⟨na, a⟩, ⟨nb, b⟩⟩ := p
    have bad : badP ((na, a), (nb, b)) = true → lrnI ps = (false, 1) := fun e => by
      rw [e, Bool.true_or] at hc
      unfold lrnI
      rw [← hc, if_pos rfl]
    conv => whnf
    repeat (first | (refine rest_vc ?_; conv => whnf) | (refine ⟨by decide, ?_⟩; conv => whnf))
    refine CallIn.tob (isAddress_ok na a) (k := ?_)
    intro b ha
    cases b <;> (conv => whnf) <;> repeat (first | (refine rest_vc ?_; conv => whnf) | (refine ⟨by decide, ?_⟩; conv => whnf))
    · have e := bad (by unfold badP; rw [show isAd a = false from ha]; rfl)
      exact ⟨rfl, (lrnR_of e).symm⟩
    · refine CallIn.tob (isAddress_ok nb b) (k := ?_)
      intro b hb
      cases b <;> (conv => whnf) <;> repeat (first | (refine rest_vc ?_; conv => whnf) | (refine ⟨by decide, ?_⟩; conv => whnf))
      · have e := bad (by unfold badP; rw [show isAd b = false from hb]; simp)
        exact ⟨rfl, (lrnR_of e).symm⟩
      · refine ⟨i + 1, fun _ => 0, ⟨by omega, ?_⟩, by omega, rfl, ⟨rfl, rfl, rfl, congrArg (vI .i64) (succ64 (by omega)), trivial⟩, rfl, fun _ _ => rfl⟩
        rw [← hc]
        unfold badP
        simp only [show isAd a = true from ha, show isAd b = true from hb]
        rfl
  · have h := of_decide_eq_false h
    have : i = ps.length := by omega
    subst this
    rw [List.drop_length] at hc
    have hbad : ps.any badP = false := hc.symm
    have hI : lrnI ps = if ps.length > 200 then (false, 3) else (lrn ps, 0) := by unfold lrnI; rw [hbad]; rfl
    have hlen : ∀ (j : Nat) (x : BP), ps[j]? = some x → x.1.2.length ≤ 16 ∧ x.2.2.length ≤ 16 := fun j x hx => by
      have := any_false_at hbad hx
      unfold badP isAd at this
      simp only [Bool.or_eq_false_iff, Bool.not_eq_false', decide_eq_true_eq] at this
      omega
    conv => whnf
    repeat (first | (refine rest_vc ?_; conv => whnf) | (refine ⟨by decide, ?_⟩; conv => whnf))
    intro _
    conv => whnf
    repeat (first | (refine rest_vc ?_; conv => whnf) | (refine ⟨by decide, ?_⟩; conv => whnf))
    split <;> rename_i g <;> (conv => whnf) <;> repeat (first | (refine rest_vc ?_; conv => whnf) | (refine ⟨by decide, ?_⟩; conv => whnf))
    · have g := of_decide_eq_true g
      rw [List.length_map] at g
      exact ⟨rfl, (lrnR_of (by rw [hI, if_pos (by omega)])).symm⟩
    have g := of_decide_eq_false g
    rw [List.length_map] at g
    rw [if_neg (by omega)] at hI
    intro _
    conv => whnf
    repeat (first | (refine rest_vc ?_; conv => whnf) | (refine ⟨by decide, ?_⟩; conv => whnf))
    refine awp_loop (n := 74) (α := Nat) (fun i => i ≤ ps.length ∧ (List.range i).all (fL ps) = true) (fun i => [(0, .pure (.list 2 nl (ps.map pvp))), (30, .pure (.list 2 nl (ps.map pvp))), (31, vI .i64 (ps.length : Nat)), (32, vI .i64 i)])
      (fun _ => []) (fun i => ps.length - i) 0 (fun _ => 0)
      ⟨Nat.zero_le _, rfl⟩ rfl ⟨rfl, rfl, congrArg (vI .i64) (by rw [List.length_map]), rfl, trivial⟩ rfl (fun _ _ => rfl) (fun _ => ⟨Nat.le_refl _, rfl, rfl⟩) ?_
    rintro i ⟨hi, hc⟩
    conv => whnf
    repeat (first | (refine rest_vc ?_; conv => whnf) | (refine ⟨by decide, ?_⟩; conv => whnf))
    split <;> rename_i u <;> (conv => whnf) <;> repeat (first | (refine rest_vc ?_; conv => whnf) | (refine ⟨by decide, ?_⟩; conv => whnf))
    · have u := of_decide_eq_true u
      refine ⟨by rw [List.length_map]; omega, fun q hq => ?_⟩
      obtain ⟨p, hp, rfl⟩ := map_get hq
      rw [Int.toNat_natCast] at hp
      have hfL := fL_at hp
      have hpl := hlen i p hp
      have bad : fL ps i = false → lrnI ps = (false, 0) := fun e => by
        rw [hI]
        unfold lrn
        rw [range_all_false (by omega) e]
      obtain ⟨⟨na, a⟩, ⟨nb, b⟩⟩ := p
      simp only at hpl
      conv => whnf
      repeat (first | (refine rest_vc ?_; conv => whnf) | (refine ⟨by decide, ?_⟩; conv => whnf))
      intro _
      conv => whnf
      repeat (first | (refine rest_vc ?_; conv => whnf) | (refine ⟨by decide, ?_⟩; conv => whnf))
      intro _
      conv => whnf
      repeat (first | (refine rest_vc ?_; conv => whnf) | (refine ⟨by decide, ?_⟩; conv => whnf))
      split <;> rename_i v <;> (conv => whnf) <;> repeat (first | (refine rest_vc ?_; conv => whnf) | (refine ⟨by decide, ?_⟩; conv => whnf))
      · have v : a.length ≠ b.length := by simp [u8s_len] at v; omega
        have e := bad (by rw [hfL]; unfold okP; simp [v])
        exact ⟨rfl, (lrnR_of e).symm⟩
      have v : a.length = b.length := by simp [u8s_len] at v; omega
      refine ⟨⟨by omega, by rw [List.length_map]; omega⟩, ?_⟩
      conv => whnf
      repeat (first | (refine rest_vc ?_; conv => whnf) | (refine ⟨by decide, ?_⟩; conv => whnf))
      intro _
      conv => whnf
      repeat (first | (refine rest_vc ?_; conv => whnf) | (refine ⟨by decide, ?_⟩; conv => whnf))
      have etk : ((ps.map pvp).drop 0).take ((i : Int).toNat - 0) = (ps.take i).map pvp := by rw [List.drop_zero, Nat.sub_zero, Int.toNat_natCast, List.map_take]
      refine awp_loop (n := 74) (α := Nat) (fun j => j ≤ i ∧ (ps.take j).all (okQ ((na, a), (nb, b))) = true)
        (fun j => [(0, .pure (.list 2 nl (ps.map pvp))), (7, .ptr 0 0), (30, .pure (.list 2 nl (ps.map pvp))), (31, vI .i64 (ps.length : Nat)), (32, vI .i64 i), (46, .pure (.list 2 nl ((ps.take i).map pvp))), (47, vI .i64 i), (48, vI .i64 j)])
        (fun _ => [.cells 43 [bts na a, bts nb b]]) (fun j => i - j) 0 (fun _ => 0)
        ⟨Nat.zero_le _, rfl⟩ rfl ⟨rfl, rfl, rfl, rfl, rfl, by show SV.pure (.list 2 nl ((((ps.map pvp).drop 0).take _))) = _; rw [etk]; rfl, by show vI .i64 ((((ps.map pvp).drop 0).take _).length : Nat) = _; rw [etk, List.length_map, List.length_take, Nat.min_eq_left hi]; rfl, rfl, trivial⟩ rfl (fun _ _ => rfl) (fun _ => ⟨Nat.zero_le _, rfl, rfl⟩) ?_
      rintro j ⟨hj, hcj⟩
      conv => whnf
      repeat (first | (refine rest_vc ?_; conv => whnf) | (refine ⟨by decide, ?_⟩; conv => whnf))
      split <;> rename_i w <;> (conv => whnf) <;> repeat (first | (refine rest_vc ?_; conv => whnf) | (refine ⟨by decide, ?_⟩; conv => whnf))
      · have w := of_decide_eq_true w
        refine ⟨by rw [List.length_map, List.length_take]; omega, fun q hq => ?_⟩
        obtain ⟨p, hp2, rfl⟩ := map_get hq
        rw [Int.toNat_natCast, List.getElem?_take, if_pos (by omega)] at hp2
        have hatk := all_take (okQ ((na, a), (nb, b))) hp2
        have hfj := range_all_at hc (j := j) (by omega)
        rw [fL_at hp2] at hfj
        have hql := okP_len hfj
        have hqs := hlen j p hp2
        have hbq : okQ ((na, a), (nb, b)) p = false → lrnI ps = (false, 0) := fun e => bad (by
          rw [hfL]
          unfold okP
          rw [all_take_false _ hp2 (by omega) e, Bool.and_false])
        obtain ⟨⟨nc, c⟩, ⟨nd, d⟩⟩ := p
        simp only at hql hqs
        conv => whnf
        repeat (first | (refine rest_vc ?_; conv => whnf) | (refine ⟨by decide, ?_⟩; conv => whnf))
        refine hand_draw [] (fun i r => r = vI .i64 (if i = 12 then (cmB a c : Int) else (cmB b d : Int))) rfl (by kernel_rfl) rfl ?_
        conv => whnf
        repeat (first | (refine rest_vc ?_; conv => whnf) | (refine ⟨by decide, ?_⟩; conv => whnf))
        intro _
        conv => whnf
        repeat (first | (refine rest_vc ?_; conv => whnf) | (refine ⟨by decide, ?_⟩; conv => whnf))
        intro _
        conv => whnf
        repeat (first | (refine rest_vc ?_; conv => whnf) | (refine ⟨by decide, ?_⟩; conv => whnf))
        split <;> rename_i z <;> (conv => whnf) <;> repeat (first | (refine rest_vc ?_; conv => whnf) | (refine ⟨by decide, ?_⟩; conv => whnf))
        · have z : c.length = a.length := by simp [u8s_len] at z; omega
          refine CallIn.dto (common_ok na nc a c z.symm (by omega)) (k := ?_)
          conv => whnf
          repeat (first | (refine rest_vc ?_; conv => whnf) | (refine ⟨by decide, ?_⟩; conv => whnf))
          refine CallIn.dto (common_ok nb nd b d (by omega) (by omega)) (k := ?_)
          conv => whnf
          repeat (first | (refine rest_vc ?_; conv => whnf) | (refine ⟨by decide, ?_⟩; conv => whnf))
          split <;> rename_i y <;> (conv => whnf) <;> repeat (first | (refine rest_vc ?_; conv => whnf) | (refine ⟨by decide, ?_⟩; conv => whnf))
          · have y : ¬ cmB a c = cmB b d := by simp at y; omega
            have e := hbq (by unfold okQ; simp [z, y])
            exact ⟨rfl, (lrnR_of e).symm⟩
          · have y : cmB a c = cmB b d := by simp at y; omega
            refine ⟨j + 1, fun _ => 0, ⟨by omega, by rw [hatk, hcj]; unfold okQ; simp [y]⟩, by omega, rfl, ⟨rfl, rfl, rfl, rfl, rfl, rfl, rfl, congrArg (vI .i64) (succ64 (by omega)), trivial⟩, rfl, fun _ _ => rfl⟩
        · have z : ¬ c.length = a.length := by simp [u8s_len] at z; omega
          refine ⟨j + 1, fun _ => 0, ⟨by omega, by rw [hatk, hcj]; unfold okQ; simp [z]⟩, by omega, rfl, ⟨rfl, rfl, rfl, rfl, rfl, rfl, rfl, congrArg (vI .i64) (succ64 (by omega)), trivial⟩, rfl, fun _ _ => rfl⟩
      · have w := of_decide_eq_false w
        have : j = i := by omega
        subst this
        refine ⟨j + 1, fun _ => 0, ⟨by omega, range_all hc ?_⟩, by omega, rfl, ⟨rfl, rfl, rfl, congrArg (vI .i64) (succ64 (by omega)), trivial⟩, rfl, fun _ _ => rfl⟩
        rw [hfL]
        unfold okP
        rw [hcj]
        simp [v]
    · have u := of_decide_eq_false u
      have : i = ps.length := by omega
      subst this
      exact ⟨rfl, (lrnR_of (by rw [hI]; unfold lrn; rw [hc])).symm⟩

theorem rLearn_ok (nl : Bool) (ps : List BP) (hl : (ps.length : Int) ≤ 2000000) (hbt : ∀ p ∈ ps, Bts p.1.2 ∧ Bts p.2.2) :
    CallOk Try.prog 18 [.pure (.list 2 nl (ps.map pvp))] [] fun r st' => st' = [] ∧ r = lrnR ps := by
  refine callOk_of true 0 Try.func18 rfl rfl (Nat.le_refl _) ?_
  conv => whnf
  repeat (first | (refine rest_vc ?_; conv => whnf) | (refine ⟨by decide, ?_⟩; conv => whnf))
  refine awp_loop (n := 94) (α := Nat) (fun i => i ≤ ps.length ∧ (ps.drop i).any badP = ps.any badP) (fun i => [(0, .pure (.list 2 nl (ps.map pvp))), (4, vI .i64 i)])
    (fun _ => []) (fun i => ps.length - i) 0 (fun _ => 0)
    ⟨Nat.zero_le _, rfl⟩ rfl ⟨rfl, rfl, trivial⟩ rfl (fun _ _ => rfl) (fun _ => ⟨Nat.le_refl _, rfl, rfl⟩) ?_
  rintro i ⟨hi, hc⟩
  conv => whnf
  repeat (first | (refine rest_vc ?_; conv => whnf) | (refine ⟨by decide, ?_⟩; conv => whnf))
  intro _
  conv => whnf
  repeat (first | (refine rest_vc ?_; conv => whnf) | (refine ⟨by decide, ?_⟩; conv => whnf))
  split <;> rename_i h <;> (conv => whnf) <;> repeat (first | (refine rest_vc ?_; conv => whnf) | (refine ⟨by decide, ?_⟩; conv => whnf))
  · have h := of_decide_eq_true h
    rw [List.length_map] at h
    refine ⟨by rw [List.length_map]; omega, fun q hq => ?_⟩
    obtain ⟨p, hp, rfl⟩ := map_get hq
    rw [Int.toNat_natCast] at hp
    have hst := any_step badP ps i p hp
    rw [hst] at hc
    obtain ⟨⟨na, a⟩, ⟨nb, b⟩⟩ := p
    have bad : badP ((na, a), (nb, b)) = true → lrnI ps = (false, 1) := fun e => by
      rw [e, Bool.true_or] at hc
      unfold lrnI
      rw [← hc, if_pos rfl]
    conv => whnf
    repeat (first | (refine rest_vc ?_; conv => whnf) | (refine ⟨by decide, ?_⟩; conv => whnf))
    refine CallIn.tob (risAddress_ok na a) (k := ?_)
    intro b ha
    cases b <;> (conv => whnf) <;> repeat (first | (refine rest_vc ?_; conv => whnf) | (refine ⟨by decide, ?_⟩; conv => whnf))
    · have e := bad (by unfold badP; rw [show isAd a = false from ha]; rfl)
      exact ⟨rfl, (lrnR_of e).symm⟩
    · refine ⟨by rw [List.length_map]; omega, fun q hq => ?_⟩
      obtain ⟨p, hp2, rfl⟩ := map_get hq
      rw [Int.toNat_natCast, hp] at hp2
      cases hp2
      conv => whnf
      repeat (first | (refine rest_vc ?_; conv => whnf) | (refine ⟨by decide, ?_⟩; conv => whnf))
      refine CallIn.tob (risAddress_ok nb b) (k := ?_)
      intro b hb
      cases b <;> (conv => whnf) <;> repeat (first | (refine rest_vc ?_; conv => whnf) | (refine ⟨by decide, ?_⟩; conv => whnf))
      · have e := bad (by unfold badP; rw [show isAd b = false from hb]; simp)
        exact ⟨rfl, (lrnR_of e).symm⟩
      · refine ⟨i + 1, fun _ => 0, ⟨by omega, ?_⟩, by omega, rfl, ⟨rfl, congrArg (vI .i64) (succ64 (by omega)), trivial⟩, rfl, fun _ _ => rfl⟩
        rw [← hc]
        unfold badP
        simp only [show isAd a = true from ha, show isAd b = true from hb]
        rfl
  · have h := of_decide_eq_false h
    rw [List.length_map] at h
    have : i = ps.length := by omega
    subst this
    rw [List.drop_length] at hc
    have hbad : ps.any badP = false := hc.symm
    have hI : lrnI ps = if ps.length > 200 then (false, 3) else (lrn ps, 0) := by unfold lrnI; rw [hbad]; rfl
    have hlen : ∀ (j : Nat) (x : BP), ps[j]? = some x → x.1.2.length ≤ 16 ∧ x.2.2.length ≤ 16 := fun j x hx => by
      have := any_false_at hbad hx
      unfold badP isAd at this
      simp only [Bool.or_eq_false_iff, Bool.not_eq_false', decide_eq_true_eq] at this
      omega
    conv => whnf
    repeat (first | (refine rest_vc ?_; conv => whnf) | (refine ⟨by decide, ?_⟩; conv => whnf))
    intro _
    conv => whnf
    repeat (first | (refine rest_vc ?_; conv => whnf) | (refine ⟨by decide, ?_⟩; conv => whnf))
    split <;> rename_i g <;> (conv => whnf) <;> repeat (first | (refine rest_vc ?_; conv => whnf) | (refine ⟨by decide, ?_⟩; conv => whnf))
    · have g := of_decide_eq_true g
      rw [List.length_map] at g
      exact ⟨rfl, (lrnR_of (by rw [hI, if_pos (by omega)])).symm⟩
    have g := of_decide_eq_false g
    rw [List.length_map] at g
    rw [if_neg (by omega)] at hI
    refine awp_loop (n := 94) (α := Nat) (fun i => i ≤ ps.length ∧ (List.range i).all (fL ps) = true) (fun i => [(0, .pure (.list 2 nl (ps.map pvp))), (5, vI .i64 i)])
      (fun _ => []) (fun i => ps.length - i) 0 (fun _ => 0)
      ⟨Nat.zero_le _, rfl⟩ rfl ⟨rfl, rfl, trivial⟩ rfl (fun _ _ => rfl) (fun _ => ⟨Nat.le_refl _, rfl, rfl⟩) ?_
    rintro i ⟨hi, hc⟩
    conv => whnf
    repeat (first | (refine rest_vc ?_; conv => whnf) | (refine ⟨by decide, ?_⟩; conv => whnf))
    intro _
    conv => whnf
    repeat (first | (refine rest_vc ?_; conv => whnf) | (refine ⟨by decide, ?_⟩; conv => whnf))
    split <;> rename_i u <;> (conv => whnf) <;> repeat (first | (refine rest_vc ?_; conv => whnf) | (refine ⟨by decide, ?_⟩; conv => whnf))
    · have u := of_decide_eq_true u
      rw [List.length_map] at u
      obtain ⟨p, hp⟩ : ∃ p, ps[i]? = some p := ⟨_, List.getElem?_eq_getElem (by omega)⟩
      have hfL := fL_at hp
      have hpl := hlen i p hp
      have hpb := hbt p (List.mem_of_getElem? hp)
      have bad : fL ps i = false → lrnI ps = (false, 0) := fun e => by
        rw [hI]
        unfold lrn
        rw [range_all_false (by omega) e]
      obtain ⟨⟨na, a⟩, ⟨nb, b⟩⟩ := p
      simp only at hpl hpb
      have look : ∀ (q : PV), (ps.map pvp)[((i : Int)).toNat]? = some q → q = pvp ((na, a), (nb, b)) := fun q hq => by
        obtain ⟨p, hp2, rfl⟩ := map_get hq
        rw [Int.toNat_natCast, hp] at hp2
        cases hp2
        rfl
      refine hand_draw [] (fun _ _ => True) rfl (by kernel_rfl) rfl ?_
      conv => whnf
      repeat (first | (refine rest_vc ?_; conv => whnf) | (refine ⟨by decide, ?_⟩; conv => whnf))
      refine ⟨by rw [List.length_map]; omega, fun q hq => ?_⟩
      obtain rfl := look q hq
      conv => whnf
      repeat (first | (refine rest_vc ?_; conv => whnf) | (refine ⟨by decide, ?_⟩; conv => whnf))
      intro _
      conv => whnf
      repeat (first | (refine rest_vc ?_; conv => whnf) | (refine ⟨by decide, ?_⟩; conv => whnf))
      refine ⟨by rw [List.length_map]; omega, fun q hq => ?_⟩
      obtain rfl := look q hq
      conv => whnf
      repeat (first | (refine rest_vc ?_; conv => whnf) | (refine ⟨by decide, ?_⟩; conv => whnf))
      intro _
      conv => whnf
      repeat (first | (refine rest_vc ?_; conv => whnf) | (refine ⟨by decide, ?_⟩; conv => whnf))
      split <;> rename_i v <;> (conv => whnf) <;> repeat (first | (refine rest_vc ?_; conv => whnf) | (refine ⟨by decide, ?_⟩; conv => whnf))
      · have v : a.length ≠ b.length := by simp [u8s_len] at v; omega
        have e := bad (by rw [hfL]; unfold okP; simp [v])
        exact ⟨rfl, (lrnR_of e).symm⟩
      have v : a.length = b.length := by simp [u8s_len] at v; omega
      refine awp_loop (n := 94) (α := Nat) (fun j => j ≤ i ∧ (ps.take j).all (okQ ((na, a), (nb, b))) = true)
        (fun j => [(0, .pure (.list 2 nl (ps.map pvp))), (5, vI .i64 i), (6, vI .i64 j)])
        (fun _ => []) (fun j => i - j) 0 (fun _ => 0)
        ⟨Nat.zero_le _, rfl⟩ rfl ⟨rfl, rfl, rfl, trivial⟩ rfl (fun _ _ => rfl) (fun _ => ⟨Nat.zero_le _, rfl, rfl⟩) ?_
      rintro j ⟨hj, hcj⟩
      conv => whnf
      repeat (first | (refine rest_vc ?_; conv => whnf) | (refine ⟨by decide, ?_⟩; conv => whnf))
      split <;> rename_i w <;> (conv => whnf) <;> repeat (first | (refine rest_vc ?_; conv => whnf) | (refine ⟨by decide, ?_⟩; conv => whnf))
      · have w := of_decide_eq_true w
        obtain ⟨p, hp2⟩ : ∃ p, ps[j]? = some p := ⟨_, List.getElem?_eq_getElem (by omega)⟩
        have hatk := all_take (okQ ((na, a), (nb, b))) hp2
        have hfj := range_all_at hc (j := j) (by omega)
        rw [fL_at hp2] at hfj
        have hql := okP_len hfj
        have hqs := hlen j p hp2
        have hqb := hbt p (List.mem_of_getElem? hp2)
        have hbq : okQ ((na, a), (nb, b)) p = false → lrnI ps = (false, 0) := fun e => bad (by
          rw [hfL]
          unfold okP
          rw [all_take_false _ hp2 (by omega) e, Bool.and_false])
        obtain ⟨⟨nc, c⟩, ⟨nd, d⟩⟩ := p
        simp only at hql hqs hqb
        have look2 : ∀ (q : PV), (ps.map pvp)[((j : Int)).toNat]? = some q → q = pvp ((nc, c), (nd, d)) := fun q hq => by
          obtain ⟨p, hp3, rfl⟩ := map_get hq
          rw [Int.toNat_natCast, hp2] at hp3
          cases hp3
          rfl
        refine hand_draw [] (fun i r => r = vI .i64 (if i = 24 then (cmB a c : Int) else (cmB b d : Int))) rfl (by kernel_rfl) rfl ?_
        conv => whnf
        repeat (first | (refine rest_vc ?_; conv => whnf) | (refine ⟨by decide, ?_⟩; conv => whnf))
        refine ⟨by rw [List.length_map]; omega, fun q hq => ?_⟩
        obtain rfl := look q hq
        conv => whnf
        repeat (first | (refine rest_vc ?_; conv => whnf) | (refine ⟨by decide, ?_⟩; conv => whnf))
        intro _
        conv => whnf
        repeat (first | (refine rest_vc ?_; conv => whnf) | (refine ⟨by decide, ?_⟩; conv => whnf))
        refine ⟨by rw [List.length_map]; omega, fun q hq => ?_⟩
        obtain rfl := look2 q hq
        conv => whnf
        repeat (first | (refine rest_vc ?_; conv => whnf) | (refine ⟨by decide, ?_⟩; conv => whnf))
        intro _
        conv => whnf
        repeat (first | (refine rest_vc ?_; conv => whnf) | (refine ⟨by decide, ?_⟩; conv => whnf))
        split <;> rename_i z <;> (conv => whnf) <;> repeat (first | (refine rest_vc ?_; conv => whnf) | (refine ⟨by decide, ?_⟩; conv => whnf))
        · have z : a.length = c.length := by simp [u8s_len] at z; omega
          refine ⟨by rw [List.length_map]; omega, fun q hq => ?_⟩
          obtain rfl := look q hq
          conv => whnf
          repeat (first | (refine rest_vc ?_; conv => whnf) | (refine ⟨by decide, ?_⟩; conv => whnf))
          refine ⟨by rw [List.length_map]; omega, fun q hq => ?_⟩
          obtain rfl := look2 q hq
          conv => whnf
          repeat (first | (refine rest_vc ?_; conv => whnf) | (refine ⟨by decide, ?_⟩; conv => whnf))
          refine CallIn.dto (rcommon_ok na nc a c z (by omega) hpb.1 hqb.1) (k := ?_)
          conv => whnf
          repeat (first | (refine rest_vc ?_; conv => whnf) | (refine ⟨by decide, ?_⟩; conv => whnf))
          refine ⟨by rw [List.length_map]; omega, fun q hq => ?_⟩
          obtain rfl := look q hq
          conv => whnf
          repeat (first | (refine rest_vc ?_; conv => whnf) | (refine ⟨by decide, ?_⟩; conv => whnf))
          refine ⟨by rw [List.length_map]; omega, fun q hq => ?_⟩
          obtain rfl := look2 q hq
          conv => whnf
          repeat (first | (refine rest_vc ?_; conv => whnf) | (refine ⟨by decide, ?_⟩; conv => whnf))
          refine CallIn.dto (rcommon_ok nb nd b d (by omega) (by omega) hpb.2 hqb.2) (k := ?_)
          conv => whnf
          repeat (first | (refine rest_vc ?_; conv => whnf) | (refine ⟨by decide, ?_⟩; conv => whnf))
          split <;> rename_i y <;> (conv => whnf) <;> repeat (first | (refine rest_vc ?_; conv => whnf) | (refine ⟨by decide, ?_⟩; conv => whnf))
          · have y : ¬ cmB a c = cmB b d := by simp at y; omega
            have e := hbq (by unfold okQ; simp [z, y])
            exact ⟨rfl, (lrnR_of e).symm⟩
          · have y : cmB a c = cmB b d := by simp at y; omega
            refine ⟨j + 1, fun _ => 0, ⟨by omega, by rw [hatk, hcj]; unfold okQ; simp [y]⟩, by omega, rfl, ⟨rfl, rfl, congrArg (vI .i64) (succ64 (by omega)), trivial⟩, rfl, fun _ _ => rfl⟩
        · have z : ¬ c.length = a.length := by simp [u8s_len] at z; omega
          refine ⟨j + 1, fun _ => 0, ⟨by omega, by rw [hatk, hcj]; unfold okQ; simp [z]⟩, by omega, rfl, ⟨rfl, rfl, congrArg (vI .i64) (succ64 (by omega)), trivial⟩, rfl, fun _ _ => rfl⟩
      · have w := of_decide_eq_false w
        have : j = i := by omega
        subst this
        refine ⟨j + 1, fun _ => 0, ⟨by omega, range_all hc ?_⟩, by omega, rfl, ⟨rfl, congrArg (vI .i64) (succ64 (by omega)), trivial⟩, rfl, fun _ _ => rfl⟩
        rw [hfL]
        unfold okP
        rw [hcj]
        simp [v]
    · have u := of_decide_eq_false u
      rw [List.length_map] at u
      have : i = ps.length := by omega
      subst this
      exact ⟨rfl, (lrnR_of (by rw [hI]; unfold lrn; rw [hc])).symm⟩
end Go.Proofs.Ytlnmkolppgkglaa
