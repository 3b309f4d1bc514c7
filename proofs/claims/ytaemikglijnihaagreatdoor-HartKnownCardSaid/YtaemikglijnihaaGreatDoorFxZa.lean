/- FxZa: a region whose order is drawn: all of it. -/
import Derived.Test.YtaemikglijnihaaGreatDoorFxZ
set_option linter.all false
namespace Go.Fx
variable {P : Program} {base : Nat} {ρ0 : Rn} {H0 : Hp} {w0 : World} {nt : Nat} {ops : Array Oper} {al : List AOper} {anc : Nat → Nat}

theorem enumL_mem {α : Type} : ∀ {l : List α} {i : Nat} {x : Nat × α}, x ∈ enumL l i ↔ i ≤ x.1 ∧ l[x.1 - i]? = some x.2
  | [], i, x => by simp [enumL]
  | o :: l, i, x => by
    simp only [enumL, List.mem_cons, enumL_mem (l := l)]
    constructor
    · rintro (rfl | ⟨h1, h2⟩)
      · simp
      · refine ⟨by omega, ?_⟩
        have : x.1 - i = (x.1 - Nat.succ i) + 1 := by omega
        rw [this]; simpa using h2
    · rintro ⟨h1, h2⟩
      by_cases hx : x.1 = i
      · left
        rw [hx, Nat.sub_self] at h2
        simp only [List.getElem?_cons_zero, Option.some.injEq] at h2
        obtain ⟨a, b⟩ := x
        simp only at hx h2
        rw [hx, h2]
      · right
        refine ⟨by omega, ?_⟩
        have : x.1 - i = (x.1 - Nat.succ i) + 1 := by omega
        rw [this] at h2; simpa using h2

theorem sc_of (h1 : ancOK anc (enumL ops.toList 0) = true) (h2 : (enumL al 0).all (fun x => selfOK x.2 && (enumL al 0).all fun y => pairOK anc x.1 x.2 y.1 y.2) = true) : SC ops al anc := by
  have hmem : ∀ (i : Nat) (a : AOper), al[i]? = some a → (i, a) ∈ enumL al 0 := fun i a h => enumL_mem.2 ⟨Nat.zero_le _, by simpa using h⟩
  have hall := List.all_eq_true.1 h2
  have hpair : ∀ (i : Nat) (a : AOper) (j : Nat) (b : AOper), al[i]? = some a → al[j]? = some b → pairOK anc i a j b = true := by
    intro i a j b hi hj
    have := hall _ (hmem i a hi)
    simp only [Bool.and_eq_true] at this
    exact List.all_eq_true.1 this.2 _ (hmem j b hj)
  constructor
  · intro i j hi hj
    have ho : ops[i]? = some ops[i] := Array.getElem?_eq_getElem hi
    have := List.all_eq_true.1 h1 (i, ops[i]) (enumL_mem.2 ⟨Nat.zero_le _, by simpa using ho⟩)
    simp only [Bool.and_eq_true] at this
    rw [Nat.eq_of_beq_eq_true this.2, hasB_anc] at hj
    rcases hj with hj | ⟨e, he, hj⟩
    · simp [hasB] at hj
    · have := List.all_eq_true.1 this.1 e he
      exact ⟨e, ⟨_, ho, he⟩, by simpa [Nat.blt_eq] using this, hj⟩
  · intro i a hi hfl
    have := hall _ (hmem i a hi)
    simp only [Bool.and_eq_true, selfOK, hfl, Bool.not_true, Bool.false_or] at this
    have := this.1
    split at this
    · rename_i d hd
      refine ⟨d, hd, fun hm => ?_⟩
      rw [memN_iff.2 hm] at this; cases this
    · cases this
  · intro i a j b d hi hj hij hfl hd
    have := hpair i a j b hi hj
    have hne : Nat.beq i j = false := by
      cases h : Nat.beq i j with
      | false => rfl
      | true => exact absurd (Nat.eq_of_beq_eq_true h) hij
    simp only [pairOK, hne, Bool.false_or, hfl, cond_true, hd, Bool.and_eq_true] at this
    obtain ⟨⟨p1, p2⟩, _⟩ := this
    refine ⟨fun hm => ?_, fun e => ?_⟩
    · rw [memN_iff.2 hm] at p1; simpa using p1
    · rw [e] at p2; simp at p2
  · intro i a j b t hi hj hij hfa hfb ht hm
    have := hpair i a j b hi hj
    have hne : Nat.beq i j = false := by
      cases h : Nat.beq i j with
      | false => rfl
      | true => exact absurd (Nat.eq_of_beq_eq_true h) hij
    simp only [pairOK, hne, Bool.false_or, hfa, hfb, cond_false, Bool.true_and, Bool.not_false, cond_true, ht, Bool.and_eq_true] at this
    rw [memN_iff.2 hm] at this
    simpa using this

/-- whoever stands behind an effect in the order has an effect that is not taken among those that it waits for -/
theorem order_waits : ∀ {r : List Nat} {T x i : Nat}, orderOK anc al r T (some x) = true → i ∈ r → hasB T i = false ∧ ∃ y, hasB (anc i) y = true ∧ (y = x ∨ hasB T y = false)
  | [], T, x, i, _, hi => by cases hi
  | z :: r, T, x, i, h, hi => by
    simp only [orderOK] at h
    split at h
    · cases h
    · rename_i a ha
      simp only [Bool.and_eq_true, Bool.not_eq_true'] at h
      obtain ⟨h1, h2, h3, h4⟩ := h
      rcases List.mem_cons.1 hi with rfl | hi
      · exact ⟨h1, x, h3, .inl rfl⟩
      · have hadd : ∀ j, hasB (addB T z) j = false → hasB T j = false := by
          intro j hj
          rw [hasB_addB] at hj
          simp only [Bool.or_eq_false_iff] at hj
          exact hj.1
        cases hf : a.fl with
        | true =>
          rw [hf] at h4
          obtain ⟨g1, y, g2, g3⟩ := order_waits h4 hi
          exact ⟨hadd i g1, y, g2, g3.imp id (hadd y)⟩
        | false =>
          rw [hf] at h4
          obtain ⟨g1, y, g2, g3⟩ := order_waits h4 hi
          refine ⟨hadd i g1, y, g2, .inr ?_⟩
          rcases g3 with rfl | g3
          · exact h1
          · exact hadd y g3

theorem order_all : ∀ {r : List Nat} {T : Nat} {last : Option Nat} {i : Nat}, orderOK anc al r T last = true → i < al.length → hasB T i = true ∨ i ∈ r
  | [], T, last, i, h, hi => by
    simp only [orderOK] at h
    rw [Nat.eq_of_beq_eq_true h]
    exact .inl (hasB_ones.2 hi)
  | z :: r, T, last, i, h, hi => by
    simp only [orderOK] at h
    split at h
    · cases h
    · rename_i a ha
      simp only [Bool.and_eq_true] at h
      rcases order_all h.2.2.2 hi with h5 | h5
      · rw [hasB_addB] at h5
        simp only [Bool.or_eq_true, decide_eq_true_eq] at h5
        rcases h5 with h5 | rfl
        · exact .inl h5
        · exact .inr (by simp)
      · exact .inr (List.mem_cons_of_mem _ h5)

end Go.Fx
