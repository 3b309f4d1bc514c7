/- FxZb: the lockstep. -/
import Derived.Test.YtaemikglijnihaaGreatDoorFxZa
set_option linter.all false
namespace Go.Fx
variable {P : Program} {base : Nat} {ρ0 : Rn} {H0 : Hp} {w0 : World} {nt : Nat} {ops : Array Oper} {al : List AOper} {anc : Nat → Nat}

def SeenI (al : List AOper) (T : Nat) (seen : List (Nat × AOper)) : Prop := ∀ (j : Nat) (c : AOper), hasB T j = true → al[j]? = some c → c.fl = true → c.op.pure = false → (j, c) ∈ seen
def Comp (P : Program) (nt : Nat) (ops : Array Oper) (al : List AOper) : Prop := ∀ (i : Nat) (b : AOper), al[i]? = some b → ∃ o, ops[i]? = some o ∧ cOper P nt ops o = some b

/-- floats are taken until an effect stands first -/
theorem takes2 {call : Res → Hp → Option (AV × Hp)} (sc : SC ops al anc) (cm : Comp P nt ops al) {D : Nat → Prop} {ρ : Rn} {w : World} {A : Act} {tmE : Tr AV} {HE : Hp} {last : Option Nat} :
    ∀ (r : List Nat) (T : Nat) (g : Nat → Nat) (seen : List (Nat × AOper)) (p : List PlanStep) (tm : Tr AV) (H : Hp), St P base ρ0 H0 w0 nt ops al anc D T g ρ tm H w A → orderOK anc al r T last = true → mkPlan anc al r seen = some p →
      doDraw call p tm H = some (tmE, HE) → SeenI al T seen → (∀ (i : Nat) (b : AOper), hasB T i = true → al[i]? = some b → b.fl = false → D i) →
    ∃ r' T' g' seen' p' tm' H', St P base ρ0 H0 w0 nt ops al anc D T' g' ρ tm' H' w A ∧ orderOK anc al r' T' last = true ∧ mkPlan anc al r' seen' = some p' ∧ doDraw call p' tm' H' = some (tmE, HE) ∧ SeenI al T' seen' ∧ (∀ (i : Nat) (b : AOper), hasB T' i = true → al[i]? = some b → b.fl = false → D i) ∧
      (r' = [] ∨ ∃ x r'' b, r' = x :: r'' ∧ al[x]? = some b ∧ b.fl = false)
  | [], T, g, seen, p, tm, H, s, ho, hp, hd, hs, hE => ⟨[], T, g, seen, p, tm, H, s, ho, hp, hd, hs, hE, .inl rfl⟩
  | z :: r, T, g, seen, p, tm, H, s, ho, hp, hd, hs, hE => by
    have ho0 := ho
    have hp0 := hp
    simp only [orderOK] at ho
    simp only [mkPlan] at hp
    split at ho
    · cases ho
    · rename_i a ha
      rw [ha] at hp
      simp only at hp
      cases hf : a.fl with
      | false => exact ⟨z :: r, T, g, seen, p, tm, H, s, ho0, hp0, hd, hs, hE, .inr ⟨z, r, a, rfl, ha, hf⟩⟩
      | true =>
        rw [hf] at ho hp
        simp only [cond_true] at ho hp
        simp only [Bool.and_eq_true, Bool.not_eq_true'] at ho
        obtain ⟨h1, h2, h3, h4⟩ := ho
        split at hp
        · rename_i p1 hp1
          simp only [Option.some.injEq] at hp; subst hp
          simp only [doDraw] at hd
          split at hd
          · rename_i av H1 hv
            obtain ⟨o, hoo, hc⟩ := cm z a ha
            obtain ⟨g', s'⟩ := s.take sc ha hf (fl_class hc hf) h1 (fun j hj => subB_spec h2 hj) hv
            refine takes2 sc cm r _ g' _ p1 _ _ s' h4 hp1 hd ?_ (fun j c j1 j2 j3 => by
              rw [hasB_addB] at j1
              simp only [Bool.or_eq_true, decide_eq_true_eq] at j1
              rcases j1 with j1 | rfl
              · exact hE j c j1 j2 j3
              · rw [ha] at j2; cases j2; rw [hf] at j3; cases j3)
            intro j c j1 j2 j3 j4
            rw [hasB_addB] at j1
            simp only [Bool.or_eq_true, decide_eq_true_eq] at j1
            rcases j1 with j1 | rfl
            · have := hs j c j1 j2 j3 j4
              cases a.op.pure
              · exact List.mem_cons_of_mem _ this
              · exact this
            · rw [ha] at j2; cases j2
              rw [j4]; exact List.mem_cons_self
          · cases hd
        · cases hp

end Go.Fx
