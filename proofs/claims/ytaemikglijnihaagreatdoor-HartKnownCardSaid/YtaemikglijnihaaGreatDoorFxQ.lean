/- FxQ: an activation, and the calls that it makes. -/
import Derived.Test.YtaemikglijnihaaGreatDoorFxP
set_option linter.all false
namespace Go.Fx
variable {P : Program} {base : Nat}

theorem r_enter {f : FuncId} {fn : Func} {c : Code} (hf : P.funcs[f]? = some fn) (hname : (fn.name == "runtime.NumGoroutine") = false) (hb : fn.body = some c) (args : Array Value) (w : World) :
    (callFunc f args).run P w = .ok (.enter f args) w := by
  have h1 : fn.name ≠ "runtime.NumGoroutine" := by simpa using hname
  simp [callFunc, hf, h1, hb]

def NatS (P : Program) (base : Nat) (f : FuncId) (g : List AV → Hp → Option (AV × Hp)) : Prop :=
  ∀ args H a H', g args H = some (a, H') → ∀ ρ w vs, HR P base ρ H w → VRs ρ args vs → (callFunc f vs.toArray).run P w = .ok (.enter f vs.toArray) w ∧ ∀ cs, ∃ v w' ρ' fr,
    Steps P (lone (Frame.enter P f vs.toArray .normal) cs w) (lone fr cs w') ∧ fr.fn = f ∧ fr.leaving P w' (.returned v) ∧ VR ρ' a v ∧ Onto P base ρ H w ρ' H' w'
structure EnvS (P : Program) (base : Nat) (E : Env) : Prop where
  code : ∀ f a, E.code f = some a → cFn P f = some a
  nat : ∀ f g, E.nat f = some g → NatS P base f g

theorem cFn_spec {f : FuncId} {a : AFn} (h : cFn P f = some a) : ∃ fn c, P.funcs[f]? = some fn ∧ fn.body = some c ∧ (fn.name == "runtime.NumGoroutine") = false ∧ cCode P fn.ntmps c = some a.body ∧
    cRes P fn.results.toList = some a.results ∧ a.ntmps = fn.ntmps := by
  unfold cFn at h
  split at h
  · rename_i fn hfn
    split at h
    · rename_i c hc
      cases hb : (fn.name == "runtime.NumGoroutine")
      · rw [hb] at h
        simp only [cond_false] at h
        split at h
        · rename_i x r h1 h2
          simp only [Option.some.injEq] at h; subst h
          exact ⟨fn, c, hfn, hc, hb, h1, h2, rfl⟩
        · cases h
      · rw [hb] at h; cases h
    · cases h
  · cases h

def ActS (P : Program) (base : Nat) (E : Env) (n : Nat) : Prop :=
  ∀ tm todo rd ds H left H', act E n tm todo rd ds H = some (left, H') → ∀ ρ w nt A k b cs, TR ρ nt tm A.tmps → IRs P ρ nt todo k → DR ρ ds A.defers → RdR ρ rd b.roundOf → b.kind = .normal → HR P base ρ H w →
    Lands P base ρ H w (lone (b.atR A k) cs w) b cs nt left H'

theorem IRs.one {ρ : Rn} {nt : Nat} {x : AItem} {y : Item} {l : List AItem} {k : List Item} (h : IR P ρ nt x y) (hk : IRs P ρ nt l k) : IRs P ρ nt (x :: l) (y :: k) := by
  simp only [IRs]; exact ⟨y, k, rfl, h, hk⟩

/-- one call of a function, from its entering to its leaving -/
theorem fn_sound {E : Env} {n : Nat} (ih : ActS P base E n) {f : FuncId} {a : AFn} (hf : cFn P f = some a) {args : List AV} {H H' H'' : Hp} {tm' : Tr AV} {ds : List Nat} {l : List AV} (hle : args.length ≤ a.ntmps)
    (hact : act E n (setArgs args 0 .e) [.c a.body] none [] H = some (.fn tm' ds, H')) (htk : takeMarks ds H' = some H'') (hres : ressOf tm' H'' a.results = some l)
    {ρ : Rn} {w : World} {vs : List Value} (hr : HR P base ρ H w) (hvs : VRs ρ args vs) :
    (callFunc f vs.toArray).run P w = .ok (.enter f vs.toArray) w ∧ ∀ cs, ∃ v w' ρ' fr,
      Steps P (lone (Frame.enter P f vs.toArray .normal) cs w) (lone fr cs w') ∧ fr.fn = f ∧ fr.leaving P w' (.returned v) ∧ VR ρ' (valOf l) v ∧ Onto P base ρ H w ρ' H'' w' := by
  obtain ⟨fn, c, h1, h2, h3, h4, h5, h6⟩ := cFn_spec hf
  refine ⟨r_enter h1 h3 h2 _ w, fun cs => ?_⟩
  let b : Frame := { (default : Frame) with fn := f, kind := .normal, roundOf := none }
  have henter : Frame.enter P f vs.toArray .normal = b.atR { tmps := vs.toArray ++ Array.replicate (fn.ntmps - vs.length) undef, defers := [] } [.code c] := by
    simp [Frame.enter, Frame.atR, h1, h2, b]
  rw [h6] at hle
  have ht := TR.enter hvs hle
  have := ih _ _ _ _ _ _ _ hact ρ w fn.ntmps { tmps := vs.toArray ++ Array.replicate (fn.ntmps - vs.length) undef, defers := [] } [.code c] b cs ht
    (IRs.one (by simp only [IR]; exact h4) (by simp only [IRs])) (by simp only [DR]) (by simp only [RdR]; rfl) rfl hr
  rw [← henter] at this
  obtain ⟨A', k', w1, ρ1, g1, g2, g3, g4, _⟩ := this
  obtain ⟨w2, g5, g6⟩ := take_sound ds (fr := { b.atR A' k' with mode := .returning }) cs htk g3 rfl g4.hr
  obtain ⟨v, g7, g8⟩ := results_sound g2 g6.hr h5 hres
  exact ⟨v, w2, ρ1, _, g1.trans g5, rfl, ⟨rfl, rfl, rfl, fn, h1, g8⟩, g7, g4.trans g6⟩

theorem setPs_sound {ρ : Rn} {nt : Nat} : ∀ {ps : List Nat} {args : List AV} {vs : List Value} {tm tm' : Tr AV} {tmps : Array Value}, setPs tm ps args = some tm' → VRs ρ args vs → TR ρ nt tm tmps → (∀ p ∈ ps, p < nt) →
    vs.length = ps.length ∧ TR ρ nt tm' ((ps.zip vs).foldl (fun tmps (t, a) => tmps.setIfInBounds t a) tmps)
  | [], [], vs, tm, tm', tmps, hx, hv, ht, hp => by
    simp only [setPs, Option.some.injEq] at hx; subst hx
    simp only [VRs] at hv; subst hv
    exact ⟨rfl, ht⟩
  | [], _ :: _, vs, tm, tm', tmps, hx, hv, ht, hp => by simp [setPs] at hx
  | _ :: _, [], vs, tm, tm', tmps, hx, hv, ht, hp => by simp [setPs] at hx
  | p :: ps, a :: l, vs, tm, tm', tmps, hx, hv, ht, hp => by
    simp only [VRs] at hv
    obtain ⟨v, r, rfl, e1, e2⟩ := hv
    simp only [setPs] at hx
    have := setPs_sound hx e2 (ht.put (hp p (by simp)) e1) (fun q hq => hp q (by simp [hq]))
    refine ⟨by simp [this.1], ?_⟩
    simpa using this.2

theorem r_yield {w : World} {b : Nat} {lo : Loop} (h : w.heap[b]? = some (.loop lo)) {vs : Array Value} (hs : vs.size = lo.params.size) :
    (Instr.yield b vs).run P w = .ok (.round b lo.fn ((lo.params.zip vs).foldl (fun tmps (t, a) => tmps.setIfInBounds t a) lo.tmps) lo.assign lo.body) w := by
  simp [Instr.yield, r_getLoop h, hs]

theorem call_sound {E : Env} (hE : EnvS P base E) {n : Nat} (ih : ActS P base E n) : CallS P base (callWith E (act E n)) := by
  intro r H a H' hx ρ w s hr hinv c cs
  rcases hinv with ⟨g, args, vs, rfl, hvs, rfl⟩ | ⟨l, args, bl, N, vs, rfl, hρ, hvs, rfl⟩
  · simp only [callWith] at hx
    have key : ∃ v w' ρ' fr, (callFunc g vs.toArray).run P w = .ok (.enter g vs.toArray) w ∧ Steps P (lone (Frame.enter P g vs.toArray .normal) (c :: cs) w) (lone fr (c :: cs) w') ∧ fr.leaving P w' (.returned v) ∧ VR ρ' a v ∧ Onto P base ρ H w ρ' H' w' := by
      split at hx
      · rename_i gg hg
        obtain ⟨h1, h2⟩ := hE.nat g gg hg args H a H' hx ρ w vs hr hvs
        obtain ⟨v, w', ρ', fr, h3, _, h4, h5, h6⟩ := h2 (c :: cs)
        exact ⟨v, w', ρ', fr, h1, h3, h4, h5, h6⟩
      · split at hx
        · cases hx
        · rename_i af haf
          cases hb : Nat.ble args.length af.ntmps
          · rw [hb] at hx; cases hx
          · rw [hb] at hx
            simp only [cond_true] at hx
            split at hx
            · rename_i tm' ds H1 hact
              split at hx
              · rename_i H2 htk
                split at hx
                · rename_i l hres
                  simp only [Option.some.injEq, Prod.mk.injEq] at hx
                  obtain ⟨rfl, rfl⟩ := hx
                  obtain ⟨h1, h2⟩ := fn_sound ih (hE.code g af haf) (Nat.le_of_ble_eq_true hb) hact htk hres hr hvs
                  obtain ⟨v, w', ρ', fr, h3, _, h4, h5, h6⟩ := h2 (c :: cs)
                  exact ⟨v, w', ρ', fr, h1, h3, h4, h5, h6⟩
                · cases hx
              · cases hx
            · cases hx
    obtain ⟨v, w', ρ', fr, h1, h2, h3, h4, h5⟩ := key
    exact ⟨_, v, w', ρ', .inl ⟨g, _, h1, rfl⟩, h2.trans (.one (step_leave_returned h3)), h4, h5⟩
  · simp only [callWith] at hx
    split at hx
    · rename_i st pd g tm0 nt0 ps x y df hg
      split at hx
      · rename_i tm1 hps
        split at hx
        · rename_i v H1 hact
          simp only [Option.some.injEq, Prod.mk.injEq] at hx
          obtain ⟨rfl, rfl⟩ := hx
          obtain ⟨o, ho, hbr, hbase⟩ := hr.blk l _ hg rfl bl N hρ
          simp only [BR] at hbr
          obtain ⟨lo, nt1, rfl, e2, e3, e4, e5, e6, e7, e8, M, e9⟩ := hbr
          obtain ⟨p1, p2⟩ := setPs_sound hps hvs e4 e6
          have hsz : vs.toArray.size = lo.params.size := by rw [← Array.length_toList (xs := lo.params), e5]; simpa using p1
          have hy := r_yield (P := P) ho hsz
          let b : Frame := { (default : Frame) with fn := lo.fn, kind := .normal, roundOf := some bl }
          have htm : (lo.params.zip vs.toArray).foldl (fun tmps (t, a) => tmps.setIfInBounds t a) lo.tmps = (ps.zip vs).foldl (fun tmps (t, a) => tmps.setIfInBounds t a) lo.tmps := by
            rw [← Array.foldl_toList, Array.toList_zip, e5]
          rw [← htm] at p2
          have := ih _ _ _ _ _ _ _ hact ρ w nt1 { tmps := _, defers := [] } [.code lo.assign, .beginRound, .code lo.body] b (c :: cs) p2
            (IRs.one (by simp only [IR]; exact e7) (IRs.one (by simp only [IR]) (IRs.one (by simp only [IR]; exact e8) (by simp only [IRs])))) (by simp only [DR]) (by simp only [RdR]; exact ⟨bl, N, hρ, rfl⟩) rfl hr
          obtain ⟨w', ρ', h1, h2⟩ := this c cs rfl
          exact ⟨_, .bool v, w', ρ', .inr ⟨bl, _, _, _, _, hy, rfl⟩, h1, by simp only [VR], h2⟩
        · cases hx
      · cases hx
    · cases hx

end Go.Fx
