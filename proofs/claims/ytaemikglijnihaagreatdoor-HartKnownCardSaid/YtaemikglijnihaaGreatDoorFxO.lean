/- FxO: regions in the text's order; an activation. -/
import Derived.Test.YtaemikglijnihaaGreatDoorFxN
set_option linter.all false
namespace Go.Fx
variable {P : Program} {base : Nat}

/-- an operation's step, taken or not -/
theorem oper_sound {call : Res → Hp → Option (AV × Hp)} (hcall : CallS P base call) {ρ : Rn} {nt : Nat} {tm tm' : Tr AV} {H H' : Hp} {w : World} {o : Oper} {ao : AOper} {ops : Array Oper} (hc : cOper P nt ops o = some ao)
    (hx : doOper call ao tm H = some (tm', H')) {A : Act} (ht : TR ρ nt tm A.tmps) (hr : HR P base ρ H w) {b : Frame} {i : Nat} {rest : List Nat} {k : List Item} (hi : ops[i]? = some o) (cs : List Frame) :
    ∃ tmps' w' ρ', Steps P (lone (b.atR A (.inRegion ops (i :: rest) :: k)) cs w) (lone (b.atR { A with tmps := tmps' } (.inRegion ops rest :: k)) cs w') ∧ TR ρ' nt tm' tmps' ∧ Onto P base ρ H w ρ' H' w' := by
  obtain ⟨hdst, hop, hlt⟩ := cOper_spec hc
  have he : EvR P ρ tm A.eval := evR_of hr ht A.defers
  unfold doOper at hx
  split at hx
  · rename_i hw
    have hwant := wantedA_sound ht hc hw
    cases hco : cOp P o with
    | none =>
      rw [hop, hco] at hx
      simp [aexec] at hx
    | some ao' =>
      have hao : ao.op = ao' := by rw [hop, hco]; rfl
      have key : ∃ a H1, (match aexec ao' tm H with | some (.v a H') => some (a, H') | some r => call r H | none => none) = some (a, H1) ∧ tm' = putD tm ao.dst a ∧ H' = H1 := by
        rw [hao] at hx
        split at hx
        · rename_i a H1 he
          simp only [Option.some.injEq, Prod.mk.injEq] at hx
          exact ⟨a, H1, by rw [he], hx.1.symm, hx.2.symm⟩
        · rename_i r hnv he
          split at hx
          · rename_i a H1 hc1
            simp only [Option.some.injEq, Prod.mk.injEq] at hx
            refine ⟨a, H1, ?_, hx.1.symm, hx.2.symm⟩
            rw [he]
            cases r with
            | v a H => exact absurd rfl (hnv a H)
            | k g l => exact hc1
            | y g l => exact hc1
          · cases hx
        · cases hx
      obtain ⟨a, H1, hm, rfl, rfl⟩ := key
      obtain ⟨v, w', ρ', hst, hv, hon⟩ := want_sound hcall hco hm he hr (b := b) (rest := rest) (k := k) hi hwant cs
      rw [put_act] at hst
      refine ⟨_, w', ρ', hst, ?_, hon⟩
      rw [hdst]
      exact TR.putD (ht.mono hon.le) hlt hv
  · rename_i hw
    have hwant := wantedA_sound ht hc hw
    simp only [Option.some.injEq, Prod.mk.injEq] at hx
    obtain ⟨rfl, rfl⟩ := hx
    have hs := stepR_op_skip (P := P) (b := b) (a := A) (k := k) (cs := cs) (w := w) (ops := ops) (i := i) (rest := rest) (by simp [hi, hwant])
    simp only [hi, Option.bind_some, put_act] at hs
    refine ⟨_, w, ρ, .one hs, ?_, Onto.refl hr⟩
    rw [hdst]
    exact TR.putD ht hlt (by simp only [VR]; exact ⟨[], rfl, VRs.nil⟩)
  · cases hx

/-- the compiled operations, in the text's order -/
def RegR (P : Program) (nt : Nat) (ops : Array Oper) : List Nat → List AOper → Prop
  | [], l => l = []
  | i :: is, l => ∃ o ao r, l = ao :: r ∧ ops[i]? = some o ∧ cOper P nt ops o = some ao ∧ RegR P nt ops is r

theorem cOpers_reg {nt : Nat} {ops : Array Oper} : ∀ (l : List Oper) (i : Nat) {al : List AOper}, cOpers P nt ops l = some al → (∀ j o, l[j]? = some o → ops[i + j]? = some o) → RegR P nt ops (List.range' i l.length) al
  | [], i, al, h, hg => by simp only [cOpers, Option.some.injEq] at h; simp only [List.length_nil, List.range'_zero, RegR]; exact h.symm
  | o :: l, i, al, h, hg => by
    simp only [cOpers] at h
    split at h
    · rename_i ao ho
      split at h
      · rename_i r hr
        simp only [Option.some.injEq] at h
        simp only [List.length_cons, List.range'_succ, RegR]
        refine ⟨o, ao, r, h.symm, hg 0 o rfl, ho, cOpers_reg l (i + 1) hr ?_⟩
        intro j o' hj
        have := hg (j + 1) o' (by simpa using hj)
        rw [← this]; congr 1; omega
      · cases h
    · cases h

theorem ops_sound {call : Res → Hp → Option (AV × Hp)} (hcall : CallS P base call) {nt : Nat} {ops : Array Oper} {b : Frame} {k : List Item} (cs : List Frame) :
    ∀ (is : List Nat) (al : List AOper), RegR P nt ops is al → ∀ {ρ : Rn} {tm tm' : Tr AV} {H H' : Hp} {w : World} {A : Act}, doOps call al tm H = some (tm', H') → TR ρ nt tm A.tmps → HR P base ρ H w →
    ∃ tmps' w' ρ', Steps P (lone (b.atR A (.inRegion ops is :: k)) cs w) (lone (b.atR { A with tmps := tmps' } k) cs w') ∧ TR ρ' nt tm' tmps' ∧ Onto P base ρ H w ρ' H' w'
  | [], al, hreg, ρ, tm, tm', H, H', w, A, hx, ht, hr => by
    simp only [RegR] at hreg; subst hreg
    simp only [doOps, Option.some.injEq, Prod.mk.injEq] at hx
    obtain ⟨rfl, rfl⟩ := hx
    exact ⟨A.tmps, w, ρ, .one stepR_region_end, ht, Onto.refl hr⟩
  | i :: is, al, hreg, ρ, tm, tm', H, H', w, A, hx, ht, hr => by
    simp only [RegR] at hreg
    obtain ⟨o, ao, r, rfl, hi, hc, hreg⟩ := hreg
    simp only [doOps] at hx
    split at hx
    · rename_i tm1 H1 h1
      obtain ⟨tmps1, w1, ρ1, hs1, ht1, hon1⟩ := oper_sound hcall hc h1 ht hr (b := b) (rest := is) (k := k) hi cs
      obtain ⟨tmps2, w2, ρ2, hs2, ht2, hon2⟩ := ops_sound hcall cs is r hreg (A := { A with tmps := tmps1 }) hx ht1 hon1.hr
      exact ⟨tmps2, w2, ρ2, hs1.trans hs2, ht2, hon1.trans hon2⟩
    · cases hx

/-! ### the results -/
def resM (tmps : Array Value) : ResultVar → Sem Value
  | .tmp t => pure (tmps.getD t undef)
  | .cell a t => do loadVar t (← asAddr (tmps.getD a undef))

theorem TR.getD {ρ : Rn} {nt : Nat} {tm : Tr AV} {tmps : Array Value} (ht : TR ρ nt tm tmps) {n : Nat} {a : AV} (h : tm.get n = some a) : VR ρ a (tmps.getD n undef) := by
  obtain ⟨v, h1, h2⟩ := ht.2 n a h
  rw [Array.getD_eq_getD_getElem?, h1]; exact h2

theorem res_sound {ρ : Rn} {nt : Nat} {tm : Tr AV} {tmps : Array Value} {H : Hp} {w : World} (ht : TR ρ nt tm tmps) (hr : HR P base ρ H w) : ∀ {l : List ResultVar} {al : List ARes} {as : List AV}, cRes P l = some al → ressOf tm H al = some as →
    ∃ vs, VRs ρ as vs ∧ (l.mapM (resM tmps)).run P w = .ok vs w
  | [], al, as, hc, hx => by
    simp only [cRes, Option.some.injEq] at hc; subst hc
    simp only [ressOf, Option.some.injEq] at hx; subst hx
    exact ⟨[], VRs.nil, by simp⟩
  | .tmp t :: l, al, as, hc, hx => by
    simp only [cRes] at hc
    split at hc
    · rename_i r hcr
      simp only [Option.some.injEq] at hc; subst hc
      simp only [ressOf, resOf] at hx
      split at hx
      · rename_i a ha
        split at hx
        · rename_i x hxr
          simp only [Option.some.injEq] at hx; subst hx
          obtain ⟨vs, h1, h2⟩ := res_sound ht hr hcr hxr
          refine ⟨_ :: vs, VRs.cons (ht.getD ha) h1, ?_⟩
          simp [List.mapM_cons, resM, h2, Result.andThen]
        · cases hx
      · cases hx
    · cases hc
  | .cell n t :: l, al, as, hc, hx => by
    simp only [cRes] at hc
    split at hc
    · rename_i d m r hd hm hcr
      simp only [Option.some.injEq] at hc; subst hc
      simp only [ressOf] at hx
      split at hx
      · rename_i a ha
        split at hx
        · rename_i x hxr
          simp only [Option.some.injEq] at hx; subst hx
          obtain ⟨vs, h1, h2⟩ := res_sound ht hr hcr hxr
          have key : ∃ v, VR ρ a v ∧ (resM tmps (.cell n t)).run P w = .ok v w := by
            cases hA : isAggD d
            · rw [hA] at ha
              simp only [cond_false, resOf] at ha
              split at ha
              · rename_i id off hb
                have hv := ht.getD hb
                simp only [VR] at hv
                obtain ⟨b, N, hρ, hfx⟩ := hv
                obtain ⟨v, g1, g2⟩ := read1_sound hr ha hρ
                exact ⟨v, g1, by simp [resM, hfx, asAddr, loadVar, r_agg hd, hA, g2]⟩
              · cases ha
            · rw [hA] at ha
              simp only [cond_true, resOf] at ha
              split at ha
              · rename_i id off hb
                have hv := ht.getD hb
                simp only [VR] at hv
                obtain ⟨b, N, hρ, hfx⟩ := hv
                split at ha
                · rename_i ls hcr2
                  simp only [Option.some.injEq] at ha; subst ha
                  obtain ⟨us, g1, g2, g3, _⟩ := readN_sound hr hcr2 hρ
                  have hvl := g1.len
                  have hrun := loadCells_run (P := P) w b off us g3
                  rw [hvl, g2] at hrun
                  exact ⟨.agg us.toArray, by simp only [VR]; exact ⟨us, rfl, g1⟩, by simp [resM, hfx, asAddr, loadVar, r_agg hd, hA, r_size hm, hrun]⟩
                · cases ha
              · cases ha
          obtain ⟨v, k1, k2⟩ := key
          refine ⟨v :: vs, VRs.cons k1 h1, ?_⟩
          simp [List.mapM_cons, k2, h2, Result.andThen]
        · cases hx
      · cases hx
    · cases hc

theorem results_sound {ρ : Rn} {nt : Nat} {tm : Tr AV} {tmps : Array Value} {H : Hp} {w : World} (ht : TR ρ nt tm tmps) (hr : HR P base ρ H w) {fn : Func} {al : List ARes} {as : List AV} (hc : cRes P fn.results.toList = some al) (hx : ressOf tm H al = some as) :
    ∃ v, VR ρ (valOf as) v ∧ (results fn tmps).run P w = .ok v w := by
  obtain ⟨vs, h1, h2⟩ := res_sound ht hr hc hx
  have hrun : (results fn tmps).run P w = .ok (if h : vs.toArray.size = 1 then vs.toArray[0] else .tuple vs.toArray) w := by
    have e : results fn tmps = (do let vs ← fn.results.mapM (resM tmps); pure (if h : vs.size = 1 then vs[0] else .tuple vs)) := by
      unfold results
      congr 1
    rw [e, Array.mapM_eq_mapM_toList]
    simp [h2]
  refine ⟨_, ?_, hrun⟩
  have hl := h1.len
  match as, h1, hl with
  | [], h1, hl =>
    simp only [VRs] at h1; subst h1
    simp only [valOf, VR]
    exact ⟨[], rfl, VRs.nil⟩
  | [a], h1, hl =>
    simp only [VRs] at h1
    obtain ⟨v, r, rfl, e1, rfl⟩ := h1
    simpa [valOf] using e1
  | a :: c :: l, h1, hl =>
    simp only [valOf, VR]
    refine ⟨vs, ?_, h1⟩
    simp only [List.length_cons] at hl
    rw [dif_neg (by simp; omega)]

end Go.Fx
