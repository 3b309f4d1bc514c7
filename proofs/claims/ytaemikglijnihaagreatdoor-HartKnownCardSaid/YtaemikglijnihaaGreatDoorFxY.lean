/- FxY: a region whose order is drawn: floats and effects that are done. -/
import Derived.Test.YtaemikglijnihaaGreatDoorFxX
set_option linter.all false
namespace Go.Fx
variable {P : Program} {base : Nat} {ρ0 : Rn} {H0 : Hp} {w0 : World} {nt : Nat} {ops : Array Oper} {al : List AOper} {anc : Nat → Nat}

theorem restr_TR {ρ : Rn} {tm : Tr AV} {tmps : Array Value} {l : List Nat} (hsz : tmps.size = nt) (ht : ∀ t ∈ l, ∀ x, tm.get t = some x → ∃ v, tmps[t]? = some v ∧ VR ρ x v) : TR ρ nt (restr tm l) tmps := by
  refine ⟨hsz, fun t x hx => ?_⟩
  rw [restr_get] at hx
  split at hx
  · rename_i hm; exact ht t hm x hx
  · cases hx

/-- a float is done -/
theorem St.doF {call : Res → Hp → Option (AV × Hp)} (hcall : CallS P base call) (sc : SC ops al anc) {D : Nat → Prop} {T : Nat} {g : Nat → Nat} {ρ : Rn} {tm : Tr AV} {H : Hp} {w : World} {A : Act} (s : St P base ρ0 H0 w0 nt ops al anc D T g ρ tm H w A) {i : Nat} {b : AOper} {o : Oper}
    (ho : ops[i]? = some o) (hc : cOper P nt ops o = some b) (hi : al[i]? = some b) (hfl : b.fl = true) (hT : hasB T i = true) (hD : ¬ D i) (he : ∀ j, AnyE ops i j → D j) (fr : Frame) (rest : List Nat) (k : List Item) (cs : List Frame) :
    ∃ v w' ρ', Steps P (lone (fr.atR A (.inRegion ops (i :: rest) :: k)) cs w) (lone (fr.atR (A.put o.dst v) (.inRegion ops rest :: k)) cs w') ∧ St P base ρ0 H0 w0 nt ops al anc (fun k => D k ∨ k = i) T g ρ' tm H w' (A.put o.dst v) := by
  have hlt : i < ops.size := by
    rcases Nat.lt_or_ge i ops.size with h | h
    · exact h
    · rw [Array.getElem?_eq_none h] at ho; cases ho
  obtain ⟨hdst, hop, hnt⟩ := cOper_spec hc
  have hopn := s.opnds sc hi hlt he
  obtain ⟨d, hd, hvf⟩ := s.v i b hT hD hi hfl
  have hdn : d < nt := hnt d (by rw [← hdst]; exact hd)
  have hr := s.on.hr
  -- pending ids stay so
  have hpend : ∀ {ρ' : Rn} {H' : Hp} {w' : World}, Onto P base ρ H w ρ' H' w' → ∀ (j : Nat) (c : AOper), hasB T j = true → ¬ D j → j ≠ i → al[j]? = some c → c.fl = true → c.op.alloc = true → wantedA tm c.guard = some true → ρ' (g j) = none := by
    intro ρ' H' w' hon j c h1 h2 _ h3 h4 h5 h6
    obtain ⟨_, _, _, _, _, _, h7, h8, _⟩ := (s.v j c h1 h2 h3 h4).alloc h5 h6
    cases hx : ρ' (g j) with
    | none => rfl
    | some x =>
      rcases hon.new _ _ hx with h | h
      · rw [h8] at h; cases h
      · have := hr.low _ _ h7; omega
  have simple : ∀ a, valOper call b tm H = some (a, H) → tm.get d = some a → ∃ v w' ρ', Steps P (lone (fr.atR A (.inRegion ops (i :: rest) :: k)) cs w) (lone (fr.atR (A.put o.dst v) (.inRegion ops rest :: k)) cs w') ∧
      St P base ρ0 H0 w0 nt ops al anc (fun k => D k ∨ k = i) T g ρ' tm H w' (A.put o.dst v) := by
    intro a hval hg
    obtain ⟨v, w', ρ', h1, h2, h3⟩ := val_sound hcall hc hval s.sz hopn hr (b := fr) (rest := rest) (k := k) ho cs
    refine ⟨v, w', ρ', h1, ?_⟩
    rw [← hdst]
    exact s.done sc hi hfl hT he hd hdn hg h2 h3.le (s.on.trans h3) (hpend h3)
  rcases hvf with ⟨h1, h2⟩ | ⟨h1, h2, a, h3, h4⟩ | ⟨h1, h2, a, blk, h3, h4, h5, h6, h7⟩
  · exact simple (.T []) (by unfold valOper; rw [h1]) h2
  · exact simple a (by unfold valOper; rw [h1]; simp only [h3]) h4
  · -- a block that floats
    have hTR := restr_TR (l := b.tmps) s.sz hopn
    have hEv : EvR P ρ (restr tm b.tmps) A.eval := evR_of hr hTR A.defers
    cases hco : cOp P o with
    | none => rw [hop, hco] at h3; simp [aexec] at h3
    | some ao' =>
      have hao : b.op = ao' := by rw [hop, hco]; rfl
      rw [aexec_same (restr_same tm b.tmps).op] at h3
      obtain ⟨blk', hl⟩ := alloc_lays (w := w) (hao ▸ h2) hco (by rw [← hao]; exact h3) hEv
      have hbb : blk' = blk := by
        have e := congrArg (fun H => H.t.get H0.next) hl.new
        have e2 : (H.new blk).t.get H.next = (H.new blk').t.get H.next := by rw [← hl.new]
        rw [get_new, get_new, if_pos rfl, if_pos rfl] at e2
        exact (Option.some.inj e2).symm
      subst hbb
      obtain ⟨v, ob, N, w', hrun, hw1, hw2, hw3, hw4, hv, hbr⟩ := hl.run
      have hwant := wantedA_sound hTR hc (by rw [← wanted_same (restr_same tm b.tmps)]; exact h1)
      have hst := step_value (P := P) (b := fr) (rest := rest) (k := k) (cOp_noDefer hco) hrun ho hwant cs
      refine ⟨v, w', ρ.upd (g i) (w.heap.size, N), .one hst, ?_⟩
      rw [← hdst]
      have hv' : VR (ρ.upd (g i) (w.heap.size, N)) (withId a (g i)) v := by
        have := hv (g i)
        have e : withId (withId a H.next) (g i) = withId a (g i) := by cases a <;> rfl
        rw [e] at this; exact this
      refine s.done sc hi hfl hT he hd hdn h4 hv' (Rn.le_upd h6) (s.on.fill h5 h6 h7 hw1 hw2 hw3 hw4 (hbr _)) ?_
      intro j c j1 j2 j3 j4 j5 j6 j7
      have hne := s.inj j i c b j1 j2 j4 j5 j6 j7 hT hD hi hfl h2 h1 j3
      obtain ⟨_, _, _, _, _, _, _, h8, _⟩ := (s.v j c j1 j2 j4 j5).alloc j6 j7
      unfold Rn.upd
      rw [if_neg hne]; exact h8

end Go.Fx
