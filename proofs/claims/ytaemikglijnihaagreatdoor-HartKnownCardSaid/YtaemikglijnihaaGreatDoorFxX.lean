/- FxX: a region whose order is drawn: the steps. -/
import Derived.Test.YtaemikglijnihaaGreatDoorFxW
set_option linter.all false
namespace Go.Fx
variable {P : Program} {base : Nat} {ρ0 : Rn} {H0 : Hp} {w0 : World} {nt : Nat} {ops : Array Oper} {al : List AOper} {anc : Nat → Nat}

theorem low_next {ρ : Rn} {H : Hp} {w : World} (hr : HR P base ρ H w) : H.t.get H.next = none := by
  cases h : H.t.get H.next with
  | none => rfl
  | some a => have := hr.low _ _ h; omega

theorem putD_same {tm : Tr AV} {d : Nat} {a : AV} {l : List Nat} (h : d ∉ l) : Same tm (tm.set a d) l := fun t ht => by
  rw [Tr.get_set, if_neg]; intro e; subst e; exact h ht

theorem VF.alloc {n0 id : Nat} {b : AOper} {ρ : Rn} {tm : Tr AV} {H : Hp} (h : VF n0 id b ρ tm H) (ha : b.op.alloc = true) (hw : wantedA tm b.guard = some true) :
    ∃ d a blk, b.dst = some d ∧ aexec b.op tm H = some (.v (withId a H.next) (H.new blk)) ∧ tm.get d = some (withId a id) ∧ H.t.get id = some blk ∧ ρ id = none ∧ n0 ≤ id := by
  obtain ⟨d, h1, h2⟩ := h
  obtain ⟨e1, e2⟩ := AO.not_both ha
  rcases h2 with ⟨h2, _⟩ | ⟨_, h3, _⟩ | ⟨_, _, a, blk, h4, h5, h6, h7, h8⟩
  · rw [hw] at h2; cases h2
  · rcases h3 with h3 | h3
    · rw [e1] at h3; cases h3
    · rw [e2] at h3; cases h3
  · exact ⟨d, a, blk, h1, h4, h5, h6, h7, h8⟩

/-- a float is taken -/
theorem St.take (sc : SC ops al anc) {D : Nat → Prop} {T : Nat} {g : Nat → Nat} {ρ : Rn} {tm : Tr AV} {H : Hp} {w : World} {A : Act} (s : St P base ρ0 H0 w0 nt ops al anc D T g ρ tm H w A) {i : Nat} {b : AOper} (hi : al[i]? = some b)
    (hfl : b.fl = true) (hcls : b.op.pure = true ∨ b.op.load = true ∨ b.op.alloc = true) (hT : hasB T i = false) (hanc : ∀ j, hasB (anc i) j = true → hasB T j = true) {a : AV} {H' : Hp} (hx : valF b tm H = some (a, H')) :
    ∃ g', St P base ρ0 H0 w0 nt ops al anc D (addB T i) g' ρ (putD tm b.dst a) H' w A := by
  obtain ⟨d, hd, hself⟩ := sc.self i b hi hfl
  have hn := low_next s.on.hr
  have hDi : ¬ D i := fun h => by rw [s.sub i h] at hT; cases hT
  have hput : putD tm b.dst a = tm.set a d := by rw [hd]; rfl
  have hsame : Same tm (tm.set a d) b.tmps := putD_same hself
  have hadd : ∀ j, hasB (addB T i) j = true ↔ hasB T j = true ∨ i = j := by
    intro j; rw [hasB_addB]; simp
  -- what the float itself gives
  have hself2 : (H' = H ∨ ∃ blk, H' = H.new blk) ∧ VF H0.next H.next b ρ (tm.set a d) H' := by
    unfold valF at hx
    split at hx
    · rename_i hw
      split at hx
      · rename_i a1 H1 hex
        simp only [Option.some.injEq, Prod.mk.injEq] at hx
        obtain ⟨rfl, rfl⟩ := hx
        have hw' : wantedA (tm.set a1 d) b.guard = some true := by rw [← wanted_same hsame]; exact hw
        have hgd : (tm.set a1 d).get d = some a1 := by rw [Tr.get_set, if_pos rfl]
        rcases hcls with hc | hc | hc
        · obtain ⟨rfl, h2⟩ := pure_frame hc hex
          refine ⟨.inl rfl, d, hd, .inr (.inl ⟨hw', .inl hc, a1, ?_, hgd⟩)⟩
          rw [← aexec_same hsame.op]; exact hex
        · have := load_frame hc hex
          subst this
          refine ⟨.inl rfl, d, hd, .inr (.inl ⟨hw', .inr hc, a1, ?_, hgd⟩)⟩
          rw [← aexec_same hsame.op]; exact hex
        · obtain ⟨blk, rfl, g2, g3⟩ := alloc_shape hc hex
          refine ⟨.inr ⟨blk, rfl⟩, d, hd, .inr (.inr ⟨hw', hc, a1, blk, ?_, ?_, ?_, s.on.hr.fresh _ (Nat.le_refl _), s.on.next⟩)⟩
          · rw [← aexec_same hsame.op]; exact g3 _
          · rw [hgd, ← g2]
          · rw [get_new, if_pos rfl]
      · cases hx
    · rename_i hw
      simp only [Option.some.injEq, Prod.mk.injEq] at hx
      obtain ⟨rfl, rfl⟩ := hx
      refine ⟨.inl rfl, d, hd, .inl ⟨by rw [← wanted_same hsame]; exact hw, by rw [Tr.get_set, if_pos rfl]⟩⟩
    · cases hx
  obtain ⟨hH, hvf⟩ := hself2
  have hoth : ∀ (j : Nat) (c : AOper), hasB T j = true → al[j]? = some c → Same tm (tm.set a d) c.tmps ∧ c.dst ≠ some d := by
    intro j c hj hc
    have hij : j ≠ i := by intro e; subst e; rw [hT] at hj; cases hj
    obtain ⟨h1, h2⟩ := sc.s1 j c i b d hc hi hij hfl hd
    refine ⟨putD_same fun hm => ?_, h2⟩
    have := s.tcl j hj i (h1 hm)
    rw [hT] at this; cases this
  refine ⟨fun k => if k = i then H.next else g k, ?_⟩
  rw [hput]
  constructor
  · rcases hH with rfl | ⟨k, rfl⟩
    · exact s.on
    · exact s.on.trans (Onto.pend s.on.hr k)
  · exact s.sz
  · intro t x hx hp
    have htd : t ≠ d := by
      intro e; subst e
      exact hp i b ((hadd i).2 (.inr rfl)) hDi hi hfl hd
    rw [Tr.get_set, if_neg htd] at hx
    exact s.tr t x hx fun j c h1 h2 h3 h4 => hp j c ((hadd j).2 (.inl h1)) h2 h3 h4
  · intro j c h1 h2 h3 h4
    by_cases hj : j = i
    · subst hj
      rw [hi] at h3; cases h3
      simpa using hvf
    · rcases (hadd j).1 h1 with h1 | h1
      · simp only [hj, if_false]
        obtain ⟨e1, e2⟩ := hoth j c h1 h3
        refine (s.v j c h1 h2 h3 h4).move e1 (fun d' hd' => ?_) hn hH
        rw [Tr.get_set, if_neg]
        intro e; subst e; exact e2 hd'
      · exact absurd h1.symm hj
  · have hlt : ∀ (k : Nat) (c : AOper), hasB T k = true → ¬ D k → al[k]? = some c → c.fl = true → c.op.alloc = true → wantedA (tm.set a d) c.guard = some true → g k < H.next := by
      intro k c h1 h2 h3 h4 h5 h6
      rw [← wanted_same (hoth k c h1 h3).1] at h6
      obtain ⟨_, _, _, _, _, _, h, _, _⟩ := (s.v k c h1 h2 h3 h4).alloc h5 h6
      exact s.on.hr.low _ _ h
    intro j k c e j1 j2 j3 j4 j5 j6 k1 k2 k3 k4 k5 k6 hjk
    by_cases hj : j = i
    · have hk : k ≠ i := fun e => hjk (hj.trans e.symm)
      simp only [hj, hk, if_true, if_false]
      rcases (hadd k).1 k1 with k1 | k1
      · have := hlt k e k1 k2 k3 k4 k5 k6; omega
      · exact absurd k1.symm hk
    · rcases (hadd j).1 j1 with j1 | j1
      · by_cases hk : k = i
        · simp only [hj, hk, if_true, if_false]
          have := hlt j c j1 j2 j3 j4 j5 j6; omega
        · rcases (hadd k).1 k1 with k1 | k1
          · simp only [hj, hk, if_false]
            rw [← wanted_same (hoth j c j1 j3).1] at j6
            rw [← wanted_same (hoth k e k1 k3).1] at k6
            exact s.inj j k c e j1 j2 j3 j4 j5 j6 k1 k2 k3 k4 k5 k6 hjk
          · exact absurd k1.symm hk
      · exact absurd j1.symm hj
  · exact s.dcl
  · intro j hj; exact (hadd j).2 (.inl (s.sub j hj))
  · intro j hj k hk
    rcases (hadd j).1 hj with hj | rfl
    · exact (hadd k).2 (.inl (s.tcl j hj k hk))
    · exact (hadd k).2 (.inl (hanc k hk))

theorem VF.rho {n0 id : Nat} {b : AOper} {ρ ρ' : Rn} {tm : Tr AV} {H : Hp} (h : VF n0 id b ρ tm H) (hr : b.op.alloc = true → wantedA tm b.guard = some true → ρ' id = none) : VF n0 id b ρ' tm H := by
  obtain ⟨d, h1, h2⟩ := h
  refine ⟨d, h1, ?_⟩
  rcases h2 with h2 | h2 | ⟨h2, h3, a, blk, h4, h5, h6, h7, h8⟩
  · exact .inl h2
  · exact .inr (.inl h2)
  · exact .inr (.inr ⟨h2, h3, a, blk, h4, h5, h6, hr h3 h2, h8⟩)

theorem step_value {o : Oper} {A : Act} {w w' : World} {v : Value} (hnd : ∀ c, o.op ≠ .defer c) (hrun : (execOp A.eval o).run P w = .ok (.value v) w') {b : Frame} {i : Nat} {rest : List Nat} {k : List Item} (hi : ops[i]? = some o)
    (hw : Region.wanted o (yielded ops A.tmps) = true) (cs : List Frame) : step P (lone (b.atR A (.inRegion ops (i :: rest) :: k)) cs w) = .next (lone (b.atR (A.put o.dst v) (.inRegion ops rest :: k)) cs w') := by
  have hfin : (b.atR A (.inRegion ops (i :: rest) :: k)).finish v = b.atR (A.put o.dst v) (.inRegion ops rest :: k) := by rw [Frame.finish_atR, hi]; rfl
  have hg := stepGR_op (P := P) (b := b) (a := A) (k := k) (cs := cs) (w := w) (rest := rest) hi hw
  rw [Oper.semAt_eq _ _ _ hnd] at hg
  refine step_lone_go ?_
  rw [hg, ← hfin]; simp [stepG.apply, hrun]

/-- the operands of an operation that is next are there -/
theorem St.opnds (sc : SC ops al anc) {D : Nat → Prop} {T : Nat} {g : Nat → Nat} {ρ : Rn} {tm : Tr AV} {H : Hp} {w : World} {A : Act} (s : St P base ρ0 H0 w0 nt ops al anc D T g ρ tm H w A) {i : Nat} {b : AOper} (hi : al[i]? = some b)
    (hlt : i < ops.size) (he : ∀ j, AnyE ops i j → D j) : ∀ t ∈ b.tmps, ∀ x, tm.get t = some x → ∃ v, A.tmps[t]? = some v ∧ VR ρ x v := by
  intro t ht x hx
  refine s.tr t x hx fun j c h1 h2 h3 h4 h5 => ?_
  by_cases hj : j = i
  · subst hj
    rw [hi] at h3; cases h3
    obtain ⟨d, hd, hs⟩ := sc.self j b hi h4
    rw [hd] at h5; cases h5
    exact hs ht
  · obtain ⟨h6, _⟩ := sc.s1 i b j c t hi h3 (Ne.symm hj) h4 h5
    exact h2 (anc_sub sc s.dcl (i + 1) i (by omega) hlt he j (h6 ht))

theorem dcl_add {D : Nat → Prop} {i : Nat} (h : ∀ i, D i → ∀ j, AnyE ops i j → D j) (he : ∀ j, AnyE ops i j → D j) : ∀ k, (D k ∨ k = i) → ∀ j, AnyE ops k j → (D j ∨ j = i) := by
  intro k hk j hj
  rcases hk with hk | rfl
  · exact .inl (h k hk j hj)
  · exact .inl (he j hj)

/-- what a float that is done leaves -/
theorem St.done (sc : SC ops al anc) {D : Nat → Prop} {T : Nat} {g : Nat → Nat} {ρ ρ' : Rn} {tm : Tr AV} {H : Hp} {w w' : World} {A : Act} (s : St P base ρ0 H0 w0 nt ops al anc D T g ρ tm H w A) {i d : Nat} {b : AOper} (hi : al[i]? = some b)
    (hfl : b.fl = true) (hT : hasB T i = true) (he : ∀ j, AnyE ops i j → D j) (hd : b.dst = some d) (hdn : d < nt) {a : AV} {v : Value} (hg : tm.get d = some a) (hv : VR ρ' a v) (hle : ρ.le ρ') (hon : Onto P base ρ0 H0 w0 ρ' H w')
    (hpn : ∀ (j : Nat) (c : AOper), hasB T j = true → ¬ D j → j ≠ i → al[j]? = some c → c.fl = true → c.op.alloc = true → wantedA tm c.guard = some true → ρ' (g j) = none) :
    St P base ρ0 H0 w0 nt ops al anc (fun k => D k ∨ k = i) T g ρ' tm H w' (A.put b.dst v) := by
  have hput : (A.put b.dst v).tmps = A.tmps.setIfInBounds d v := by rw [hd]; rfl
  constructor
  · exact hon
  · rw [hput]; simpa using s.sz
  · intro t x hx hp
    rw [hput]
    by_cases ht : t = d
    · subst ht
      rw [hg] at hx; cases hx
      exact ⟨v, by rw [Array.getElem?_setIfInBounds_self_of_lt (by rw [s.sz]; exact hdn)], hv⟩
    · obtain ⟨u, h1, h2⟩ := s.tr t x hx fun j c h1 h2 h3 h4 h5 => by
        by_cases hj : j = i
        · subst hj
          rw [hi] at h3; cases h3
          rw [hd] at h5; cases h5
          exact ht rfl
        · exact hp j c h1 (fun h => h.elim h2 hj) h3 h4 h5
      exact ⟨u, by rw [Array.getElem?_setIfInBounds_ne (Ne.symm ht)]; exact h1, VR.mono hle _ _ h2⟩
  · intro j c h1 h2 h3 h4
    have h2' : ¬ D j := fun h => h2 (.inl h)
    exact (s.v j c h1 h2' h3 h4).rho fun h5 h6 => hpn j c h1 h2' (fun h => h2 (.inr h)) h3 h4 h5 h6
  · intro j k c e j1 j2 j3 j4 j5 j6 k1 k2 k3 k4 k5 k6 hjk
    exact s.inj j k c e j1 (fun h => j2 (.inl h)) j3 j4 j5 j6 k1 (fun h => k2 (.inl h)) k3 k4 k5 k6 hjk
  · exact dcl_add s.dcl he
  · rintro j (h | rfl)
    · exact s.sub j h
    · exact hT
  · exact s.tcl

end Go.Fx
