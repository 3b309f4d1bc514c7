/- FxZ: a region whose order is drawn: effects. -/
import Derived.Test.YtaemikglijnihaaGreatDoorFxY
set_option linter.all false
namespace Go.Fx
variable {P : Program} {base : Nat} {ρ0 : Rn} {H0 : Hp} {w0 : World} {nt : Nat} {ops : Array Oper} {al : List AOper} {anc : Nat → Nat}

theorem St.doX {call : Res → Hp → Option (AV × Hp)} (hcall : CallS P base call) (sc : SC ops al anc) {D : Nat → Prop} {T : Nat} {g : Nat → Nat} {ρ : Rn} {tm : Tr AV} {H H' : Hp} {w : World} {A : Act} (s : St P base ρ0 H0 w0 nt ops al anc D T g ρ tm H w A) {i : Nat} {b : AOper} {o : Oper}
    (ho : ops[i]? = some o) (hc : cOper P nt ops o = some b) (hi : al[i]? = some b) (hfl : b.fl = false) (hT : hasB T i = false) (hanc : ∀ j, hasB (anc i) j = true → hasB T j = true) (he : ∀ j, AnyE ops i j → D j) {a : AV} (hx : valOper call b tm H = some (a, H'))
    (hag : ∀ (j : Nat) (c : AOper), hasB T j = true → hasB (anc i) j = false → al[j]? = some c → c.fl = true → c.op.pure = false → againOK (putD tm b.dst a) H' c = true)
    (fr : Frame) (rest : List Nat) (k : List Item) (cs : List Frame) :
    ∃ v w' ρ', Steps P (lone (fr.atR A (.inRegion ops (i :: rest) :: k)) cs w) (lone (fr.atR (A.put o.dst v) (.inRegion ops rest :: k)) cs w') ∧
      St P base ρ0 H0 w0 nt ops al anc (fun k => D k ∨ k = i) (addB T i) g ρ' (putD tm b.dst a) H' w' (A.put o.dst v) := by
  have hlt : i < ops.size := by
    rcases Nat.lt_or_ge i ops.size with h | h
    · exact h
    · rw [Array.getElem?_eq_none h] at ho; cases ho
  obtain ⟨hdst, hop, hnt⟩ := cOper_spec hc
  have hopn := s.opnds sc hi hlt he
  have hr := s.on.hr
  obtain ⟨v, w', ρ', hst, hv, hon⟩ := val_sound hcall hc hx s.sz hopn hr (b := fr) (rest := rest) (k := k) ho cs
  have hadd : ∀ j, hasB (addB T i) j = true ↔ hasB T j = true ∨ i = j := by
    intro j; rw [hasB_addB]; simp
  have hdn : ∀ d, b.dst = some d → d < nt := fun d hd => hnt d (by rw [← hdst]; exact hd)
  -- the floats that are taken and not done: their operands and their slots stay
  have keep : ∀ (j : Nat) (c : AOper), hasB T j = true → ¬ D j → al[j]? = some c → c.fl = true → hasB (anc i) j = false ∧ Same tm (putD tm b.dst a) c.tmps ∧ (∀ d, c.dst = some d → (putD tm b.dst a).get d = tm.get d) := by
    intro j c h1 h2 h3 h4
    have hji : j ≠ i := by intro e; subst e; rw [hT] at h1; cases h1
    have hna : hasB (anc i) j = false := by
      cases hx : hasB (anc i) j with
      | false => rfl
      | true => exact absurd (anc_sub sc s.dcl (i + 1) i (by omega) hlt he j hx) h2
    refine ⟨hna, ?_, ?_⟩
    · cases hb : b.dst with
      | none => exact fun t _ => rfl
      | some t =>
        refine putD_same fun hm => ?_
        rcases sc.s3 j c i b t h3 hi hji h4 hfl hb hm with h | h
        · have := s.tcl j h1 i h; rw [hT] at this; cases this
        · rw [hna] at h; cases h
    · intro d hd
      obtain ⟨_, h6⟩ := sc.s1 i b j c d hi h3 (Ne.symm hji) h4 hd
      cases hb : b.dst with
      | none => rfl
      | some t =>
        show (tm.set a t).get d = _
        rw [Tr.get_set, if_neg]
        intro e; subst e; exact h6 hb
  have hpd : ∀ j, hasB (addB T i) j = true → ¬ (D j ∨ j = i) → hasB T j = true ∧ ¬ D j := by
    intro j h1 h2
    rcases (hadd j).1 h1 with h | h
    · exact ⟨h, fun h' => h2 (.inl h')⟩
    · exact absurd (.inr h.symm) h2
  refine ⟨v, w', ρ', hst, ?_⟩
  rw [← hdst]
  constructor
  · exact s.on.trans hon
  · have := s.sz
    cases hb : b.dst with
    | none => exact this
    | some d => show (A.tmps.setIfInBounds d v).size = nt; simpa using this
  · intro t x hx hp
    have hp' : ∀ (j : Nat) (c : AOper), hasB T j = true → ¬ D j → al[j]? = some c → c.fl = true → c.dst ≠ some t := by
      intro j c h1 h2 h3 h4
      refine hp j c ((hadd j).2 (.inl h1)) ?_ h3 h4
      rintro (h | h)
      · exact h2 h
      · subst h; rw [hT] at h1; cases h1
    cases hb : b.dst with
    | none =>
      rw [hb] at hx
      obtain ⟨u, h1, h2⟩ := s.tr t x hx hp'
      exact ⟨u, h1, VR.mono hon.le _ _ h2⟩
    | some d =>
      rw [hb] at hx
      have hx : (tm.set a d).get t = some x := hx
      show ∃ u, (A.tmps.setIfInBounds d v)[t]? = some u ∧ _
      rw [Tr.get_set] at hx
      by_cases ht : t = d
      · rw [if_pos ht] at hx
        cases hx
        exact ⟨v, by rw [ht, Array.getElem?_setIfInBounds_self_of_lt (by rw [s.sz]; exact hdn d hb)], hv⟩
      · rw [if_neg ht] at hx
        obtain ⟨u, h1, h2⟩ := s.tr t x hx hp'
        exact ⟨u, by rw [Array.getElem?_setIfInBounds_ne (Ne.symm ht)]; exact h1, VR.mono hon.le _ _ h2⟩
  · intro j c h1 h2 h3 h4
    obtain ⟨h1, h2⟩ := hpd j h1 h2
    obtain ⟨hna, hsm, hsl⟩ := keep j c h1 h2 h3 h4
    obtain ⟨d, hd, hvf⟩ := s.v j c h1 h2 h3 h4
    have hw := wanted_same hsm
    refine ⟨d, hd, ?_⟩
    rw [← hw, hsl d hd]
    rcases hvf with h5 | ⟨h5, h6, x, h7, h8⟩ | ⟨h5, h6, x, blk, h7, h8, h9, h10, h11⟩
    · exact .inl h5
    · refine .inr (.inl ⟨h5, h6, x, ?_, h8⟩)
      cases hp : c.op.pure with
      | true =>
        rw [← aexec_same hsm.op]
        exact (pure_frame hp h7).2 H'
      | false =>
        have h6 : c.op.load = true := h6.resolve_left (by rw [hp]; exact Bool.false_ne_true)
        have hag' := hag j c h1 hna h3 h4 hp
        have hal : c.op.alloc = false := by
          cases hx : c.op.alloc with
          | false => rfl
          | true => rw [(AO.not_both hx).2] at h6; cases h6
        unfold againOK at hag'
        rw [← hw, h5, hd] at hag'
        simp only [hsl d hd, h8] at hag'
        split at hag'
        · rename_i a2 H2 b2 e1 e2
          simp only [Option.some.injEq] at e2; subst e2
          rw [hal] at hag'
          simp only [cond_false] at hag'
          have := eqV_sound hag'
          subst this
          have := load_frame h6 e1
          subst this
          exact e1
        · cases hag'
    · have hp := (AO.not_both h6).1
      have hag' := hag j c h1 hna h3 h4 hp
      unfold againOK at hag'
      rw [← hw, h5, hd] at hag'
      simp only [hsl d hd, h8] at hag'
      split at hag'
      · rename_i a2 H2 b2 e1 e2
        simp only [Option.some.injEq] at e2
        rw [h6] at hag'
        simp only [cond_true] at hag'
        obtain ⟨blk2, g1, g2, g3⟩ := alloc_shape h6 e1
        split at hag'
        · rename_i id hid
          simp only [Bool.and_eq_true] at hag'
          have hb2 := eqV_sound hag'.1
          have hidg : id = g j := by
            rw [← e2] at hid
            cases x <;> simp [withId, idA] at hid <;> exact hid.symm
          subst hidg
          have hblk : H'.t.get (g j) = some blk2 := by
            have h12 := hag'.2
            split at h12
            · rename_i y z hy hz
              have := eqB_sound h12
              subst this
              rw [g1, get_new, if_pos rfl] at hy
              cases hy
              exact hz
            · cases h12
          refine .inr (.inr ⟨h5, h6, a2, blk2, ?_, ?_, hblk, ?_, h11⟩)
          · have e : withId a2 H'.next = a2 := by rw [g2]; cases a2 <;> rfl
            rw [e, ← g1]; exact e1
          · rw [h8, e2, hb2]
          · cases hx : ρ' (g j) with
            | none => rfl
            | some y =>
              rcases hon.new _ _ hx with h | h
              · rw [h10] at h; cases h
              · have := hr.low _ _ h9; omega
        · cases hag'
      · cases hag'
  · intro j k c e j1 j2 j3 j4 j5 j6 k1 k2 k3 k4 k5 k6 hjk
    obtain ⟨j1, j2⟩ := hpd j j1 j2
    obtain ⟨k1, k2⟩ := hpd k k1 k2
    rw [← wanted_same (keep j c j1 j2 j3 j4).2.1] at j6
    rw [← wanted_same (keep k e k1 k2 k3 k4).2.1] at k6
    exact s.inj j k c e j1 j2 j3 j4 j5 j6 k1 k2 k3 k4 k5 k6 hjk
  · exact dcl_add s.dcl he
  · rintro j (h | rfl)
    · exact (hadd j).2 (.inl (s.sub j h))
    · exact (hadd j).2 (.inr rfl)
  · intro j hj k hk
    rcases (hadd j).1 hj with hj | rfl
    · exact (hadd k).2 (.inl (s.tcl j hj k hk))
    · exact (hadd k).2 (.inl (hanc k hk))

end Go.Fx
