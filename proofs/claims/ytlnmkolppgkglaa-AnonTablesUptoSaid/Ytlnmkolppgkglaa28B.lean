/- law27: lists in ascending order without equals; what is left of a sorted list is one. -/
import Derived.Test.Ytlnmkolppgkglaa28A
set_option linter.all false
set_option maxHeartbeats 4000000
set_option maxRecDepth 100000
namespace Go.Proofs.Ytlnmkolppgkglaa
open Go Go.RowKit Go.Sy Go.Proofs Go.Sort

abbrev bo (l : List Int) : List UInt8 := Lib.bytesOf l
def SrtS (S : List (List Int)) : Prop := S.Pairwise fun a b => bo a < bo b

theorem lt_asymm' {a b : List UInt8} (h : a < b) (h' : b < a) : False := List.lt_irrefl _ (List.lt_trans h h')

theorem srt_uniq : ∀ {S S' : List (List Int)}, SrtS S → SrtS S' → (∀ b, b ∈ S ↔ b ∈ S') → S = S'
  | [], [], _, _, _ => rfl
  | [], y :: r', _, _, h => by have := (h y).2 (by simp); simp at this
  | x :: r, [], _, _, h => by have := (h x).1 (by simp); simp at this
  | x :: r, y :: r', h1, h2, h => by
    obtain ⟨a1, a2⟩ := List.pairwise_cons.1 h1
    obtain ⟨b1, b2⟩ := List.pairwise_cons.1 h2
    have hxy : x = y := by
      rcases List.mem_cons.1 ((h x).1 (by simp)) with e | e
      · exact e
      · rcases List.mem_cons.1 ((h y).2 (by simp)) with e' | e'
        · exact e'.symm
        · exact (lt_asymm' (b1 x e) (a1 y e')).elim
    subst hxy
    have : r = r' := srt_uniq a2 b2 fun b => by
      have hb := h b
      constructor
      · intro hm
        rcases List.mem_cons.1 (hb.1 (List.mem_cons_of_mem _ hm)) with e | e
        · subst e; exact absurd (a1 b hm) (List.lt_irrefl _)
        · exact e
      · intro hm
        rcases List.mem_cons.1 (hb.2 (List.mem_cons_of_mem _ hm)) with e | e
        · subst e; exact absurd (b1 b hm) (List.lt_irrefl _)
        · exact e
    rw [this]

theorem bo_inj : ∀ {a b : List Int}, Bts a → Bts b → bo a = bo b → a = b
  | [], [], _, _, _ => rfl
  | [], _ :: _, _, _, h => by simp [Lib.bytesOf] at h
  | _ :: _, [], _, _, h => by simp [Lib.bytesOf] at h
  | x :: a, y :: b, h1, h2, h => by
    simp only [Lib.bytesOf, List.map_cons, List.cons.injEq] at h
    have hx := h1 x (by simp)
    have hy := h2 y (by simp)
    have e : x = y := by
      have := congrArg UInt8.toNat h.1
      simp only [UInt8.toNat_ofNat'] at this
      omega
    rw [e, bo_inj (fun z hz => h1 z (by simp [hz])) (fun z hz => h2 z (by simp [hz])) h.2]

theorem eqB_iff (x y : BV) : eqB x y = true ↔ bo x.2 = bo y.2 := by
  unfold eqB
  rw [Lib.strOfNums_toList, Lib.strOfNums_toList]
  exact beq_iff_eq

theorem ltB_false {x y : BV} (h : ltB y x = false) : ¬ bo y.2 < bo x.2 := by
  rw [ltB_eq] at h
  simpa [ltStr] using h

theorem kept_spec : ∀ (l : List BV) (p : BV), (p :: l).Pairwise (fun x y => ltB y x = false) → (∀ x ∈ p :: l, Bts x.2) →
    SrtS ((p :: kptB p l).map (·.2)) ∧ ∀ b, b ∈ (p :: kptB p l).map (·.2) ↔ b ∈ (p :: l).map (·.2)
  | [], p, _, _ => ⟨by simp [SrtS, kptB], fun b => by simp [kptB]⟩
  | x :: l, p, h, hb => by
    obtain ⟨a1, a2⟩ := List.pairwise_cons.1 h
    obtain ⟨a3, a4⟩ := List.pairwise_cons.1 a2
    have hp := hb p (by simp)
    have hx := hb x (by simp)
    by_cases he : eqB x p = true
    · have e : x.2 = p.2 := bo_inj hx hp ((eqB_iff x p).1 he)
      have ih := kept_spec l x a2 (fun y hy => hb y (by simp [hy]))
      unfold kptB
      rw [if_pos he]
      have e1 : (p :: kptB x l).map (·.2) = (x :: kptB x l).map (·.2) := by simp [e]
      rw [e1]
      refine ⟨ih.1, fun b => (ih.2 b).trans ?_⟩
      simp only [List.map_cons, List.mem_cons, e]
      constructor
      · rintro (h | h)
        · exact .inl h
        · exact .inr (.inr h)
      · rintro (h | h | h)
        · exact .inl h
        · exact .inl h
        · exact .inr h
    · have ih := kept_spec l x a2 (fun y hy => hb y (by simp [hy]))
      unfold kptB
      rw [if_neg he]
      refine ⟨?_, fun b => ?_⟩
      · have hlt : bo p.2 < bo x.2 := by
          have h1 := ltB_false (a1 x (by simp))
          have h2 : ¬ bo x.2 = bo p.2 := fun e => he ((eqB_iff x p).2 e)
          rcases List.le_iff_lt_or_eq.1 (List.not_lt.1 h1) with h | h
          · exact h
          · exact absurd h.symm h2
        have ih1 := ih.1
        refine List.pairwise_cons.2 ⟨fun b hm => ?_, ih1⟩
        have hm : b ∈ (x :: kptB x l).map (·.2) := hm
        rw [List.map_cons] at hm
        rcases List.mem_cons.1 hm with e | e
        · rw [e]; exact hlt
        · exact List.lt_trans hlt ((List.pairwise_cons.1 ih1).1 b e)
      · have := ih.2 b
        simp only [List.map_cons, List.mem_cons] at this ⊢
        rw [this]

theorem comp_spec (d : List BV) (h : d.Pairwise (fun x y => ltB y x = false)) (hb : ∀ x ∈ d, Bts x.2) : SrtS ((compB d).map (·.2)) ∧ ∀ b, b ∈ (compB d).map (·.2) ↔ b ∈ d.map (·.2) := by
  cases d with
  | nil => exact ⟨by simp [SrtS, compB], fun b => Iff.rfl⟩
  | cons p l => exact kept_spec l p h hb

theorem sorted_pw {l : List BV} {e : Array BV} (h : Srt 0 l.length l.toArray e) : e.toList.Pairwise (fun x y => ltB y x = false) ∧ e.toList.Perm l := by
  obtain ⟨⟨h1, h2, h3⟩, h4⟩ := h
  have hs : e.size = l.length := by simpa using h1
  refine ⟨?_, ?_⟩
  · rw [List.pairwise_iff_getElem]
    intro i j hi hj hij
    have := h4 i j (Nat.zero_le _) hij (by simpa [hs] using hj)
    have e1 : e[i]! = e.toList[i] := by simp at hi; simp [getElem!_pos e i hi]
    have e2 : e[j]! = e.toList[j] := by simp at hj; simp [getElem!_pos e j hj]
    rw [e1, e2] at this
    exact this
  · have e1 : e.extract 0 l.length = e := by rw [← hs]; simp
    have e2 : l.toArray.extract 0 l.length = l.toArray := by simp
    rw [e1, e2] at h3
    simpa using h3

/-- What the program's sort and what is behind it leave. -/
theorem set_spec {l : List BV} {e : Array BV} (h : Srt 0 l.length l.toArray e) (hb : ∀ x ∈ l, Bts x.2) : SrtS ((compB e.toList).map (·.2)) ∧ ∀ b, b ∈ (compB e.toList).map (·.2) ↔ b ∈ l.map (·.2) := by
  obtain ⟨h1, h2⟩ := sorted_pw h
  obtain ⟨g1, g2⟩ := comp_spec e.toList h1 fun x hx => hb x (h2.mem_iff.1 hx)
  refine ⟨g1, fun b => (g2 b).trans ?_⟩
  exact (h2.map (·.2)).mem_iff
end Go.Proofs.Ytlnmkolppgkglaa
