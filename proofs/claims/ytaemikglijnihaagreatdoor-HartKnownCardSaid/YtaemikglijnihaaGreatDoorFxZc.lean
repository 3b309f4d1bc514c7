/- FxZc: the lockstep, whole. -/
import Derived.Test.YtaemikglijnihaaGreatDoorFxZb
set_option linter.all false
namespace Go.Fx
variable {P : Program} {base : Nat} {ρ0 : Rn} {H0 : Hp} {w0 : World} {nt : Nat} {ops : Array Oper} {al : List AOper} {anc : Nat → Nat}

theorem lockstep {call : Res → Hp → Option (AV × Hp)} (hcall : CallS P base call) (sc : SC ops al anc) (cm : Comp P nt ops al) (hlen : al.length = ops.size) {tmE : Tr AV} {HE : Hp} {fr : Frame} {k : List Item} {cs : List Frame} {D : Nat → Prop} {L : List Nat}
    (hL : Lin ops.size (AnyE ops) D L) : ∀ (r : List Nat) (T : Nat) (g : Nat → Nat) (seen : List (Nat × AOper)) (p : List PlanStep) (tm : Tr AV) (H : Hp) (ρ : Rn) (w : World) (A : Act) (last : Option Nat), St P base ρ0 H0 w0 nt ops al anc D T g ρ tm H w A →
      orderOK anc al r T last = true → mkPlan anc al r seen = some p → doDraw call p tm H = some (tmE, HE) → SeenI al T seen → (∀ (i : Nat) (b : AOper), hasB T i = true → al[i]? = some b → b.fl = false → D i) →
      (r = [] ∨ ∃ x r'' b, r = x :: r'' ∧ al[x]? = some b ∧ b.fl = false) →
    ∃ tmps' w' ρ', Steps P (lone (fr.atR A (.inRegion ops L :: k)) cs w) (lone (fr.atR { A with tmps := tmps' } k) cs w') ∧ TR ρ' nt tmE tmps' ∧ Onto P base ρ0 H0 w0 ρ' HE w' := by
  induction hL with
  | nil hD =>
    intro r T g seen p tm H ρ w A last s ho hp hd hs hE hr
    rcases hr with rfl | ⟨x, r'', b, rfl, hx, hf⟩
    · simp only [mkPlan, Option.some.injEq] at hp; subst hp
      simp only [doDraw, Option.some.injEq, Prod.mk.injEq] at hd
      obtain ⟨rfl, rfl⟩ := hd
      refine ⟨A.tmps, w, ρ, .one stepR_region_end, ⟨s.sz, fun t a ht => s.tr t a ht fun i b h1 h2 h3 _ => ?_⟩, s.on⟩
      exfalso
      have := (List.getElem?_eq_some_iff.1 h3).1
      exact h2 (hD i (by omega))
    · exfalso
      have := (List.getElem?_eq_some_iff.1 hx).1
      have hT := s.sub x (hD x (by omega))
      simp only [orderOK, hx, Bool.and_eq_true, Bool.not_eq_true'] at ho
      rw [ho.1] at hT; cases hT
  | @cons D i L hi hnD he hL ih =>
    intro r T g seen p tm H ρ w A last s ho hp hd hs hE hr
    obtain ⟨b, hb⟩ : ∃ b, al[i]? = some b := ⟨_, List.getElem?_eq_getElem (by omega)⟩
    obtain ⟨o, hoo, hc⟩ := cm i b hb
    have hanc := anc_sub sc s.dcl (i + 1) i (by omega) hi he
    -- behind the effect that stands first nothing is ready
    have hbehind : ∀ x r'' bx, r = x :: r'' → al[x]? = some bx → bx.fl = false → i ∈ r'' → False := by
      intro x r'' bx e hx hf hm
      subst e
      simp only [orderOK, hx, Bool.and_eq_true, Bool.not_eq_true'] at ho
      obtain ⟨h1, _, _, h4⟩ := ho
      rw [hf] at h4
      obtain ⟨_, y, h5, h6⟩ := order_waits h4 hm
      have hTy := s.sub y (hanc y h5)
      rcases h6 with rfl | h6
      · rw [h1] at hTy; cases hTy
      · rw [hasB_addB] at h6
        simp only [Bool.or_eq_false_iff] at h6
        rw [h6.1] at hTy; cases hTy
    have hput : ∀ (dst : Option Nat) (v : Value) (t : Array Value), ({ A.put dst v with tmps := t } : Act) = { A with tmps := t } := by intro dst v t; rw [put_act]
    cases hf : b.fl with
    | true =>
      have hT : hasB T i = true := by
        rcases order_all ho (by omega : i < al.length) with h | h
        · exact h
        · exfalso
          rcases hr with rfl | ⟨x, r'', bx, e, hx, hfx⟩
          · cases h
          · rw [e] at h
            rcases List.mem_cons.1 h with rfl | h
            · rw [hb] at hx; cases hx; rw [hf] at hfx; cases hfx
            · exact hbehind x r'' bx e hx hfx h
      obtain ⟨v, w', ρ', hst, s'⟩ := s.doF hcall sc hoo hc hb hf hT hnD he fr L k cs
      obtain ⟨tmps', w2, ρ2, h1, h2, h3⟩ := ih r T g seen p tm H ρ' w' _ last s' ho hp hd hs (fun j c j1 j2 j3 => .inl (hE j c j1 j2 j3)) hr
      rw [hput] at h1
      exact ⟨tmps', w2, ρ2, hst.trans h1, h2, h3⟩
    | false =>
      have hTf : hasB T i = false := by
        cases h : hasB T i with
        | false => rfl
        | true => exact absurd (hE i b h hb hf) hnD
      have hin : i ∈ r := by
        rcases order_all ho (by omega : i < al.length) with h | h
        · rw [hTf] at h; cases h
        · exact h
      rcases hr with rfl | ⟨x, r'', bx, e, hx, hfx⟩
      · cases hin
      have hix : i = x := by
        rw [e] at hin
        rcases List.mem_cons.1 hin with h | h
        · exact h
        · exact (hbehind x r'' bx e hx hfx h).elim
      subst hix; subst e
      simp only [orderOK, hb, hf, cond_false, Bool.and_eq_true, Bool.not_eq_true'] at ho
      obtain ⟨h1, h2, _, h4⟩ := ho
      simp only [mkPlan, hb, hf, cond_false] at hp
      split at hp
      · rename_i p1 hp1
        simp only [Option.some.injEq] at hp; subst hp
        simp only [doDraw] at hd
        split at hd
        · rename_i av H1 hv
          cases hag : (((seen.filter fun x => !(hasB (anc i) x.1)).map (·.2)).all (againOK (putD tm b.dst av) H1))
          · rw [hag] at hd; cases hd
          rw [hag] at hd
          simp only [cond_true] at hd
          obtain ⟨v, w', ρ', hst, s'⟩ := s.doX hcall sc hoo hc hb hf h1 (fun j hj => subB_spec h2 hj) he hv (fun j c j1 j2 j3 j4 j5 => by
            refine List.all_eq_true.1 hag c (List.mem_map.2 ⟨(j, c), List.mem_filter.2 ⟨hs j c j1 j3 j4 j5, by simp [j2]⟩, rfl⟩)) fr L k cs
          have hs' : SeenI al (addB T i) seen := by
            intro j c j1 j2 j3 j4
            rw [hasB_addB] at j1
            simp only [Bool.or_eq_true, decide_eq_true_eq] at j1
            rcases j1 with j1 | rfl
            · exact hs j c j1 j2 j3 j4
            · rw [hb] at j2; cases j2; rw [hf] at j3; cases j3
          have hE' : ∀ (j : Nat) (c : AOper), hasB (addB T i) j = true → al[j]? = some c → c.fl = false → D j ∨ j = i := by
            intro j c j1 j2 j3
            rw [hasB_addB] at j1
            simp only [Bool.or_eq_true, decide_eq_true_eq] at j1
            rcases j1 with j1 | rfl
            · exact .inl (hE j c j1 j2 j3)
            · exact .inr rfl
          obtain ⟨r', T', g', seen', p', tm', H', s2, ho2, hp2, hd2, hs2, hE2, hr2⟩ := takes2 sc cm r'' _ _ _ _ _ _ s' h4 hp1 hd hs' hE'
          obtain ⟨tmps', w2, ρ2, k1, k2, k3⟩ := ih r' T' g' seen' p' tm' H' ρ' w' _ _ s2 ho2 hp2 hd2 hs2 hE2 hr2
          rw [hput] at k1
          exact ⟨tmps', w2, ρ2, hst.trans k1, k2, k3⟩
        · cases hd
      · cases hp

end Go.Fx
