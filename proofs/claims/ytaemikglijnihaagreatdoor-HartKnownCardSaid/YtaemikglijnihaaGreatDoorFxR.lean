/- FxR: an activation's steps. -/
import Derived.Test.YtaemikglijnihaaGreatDoorFxQ
set_option linter.all false
namespace Go.Fx
variable {P : Program} {base : Nat}

/-- what is asked of a region whose order is drawn -/
def DrawS (P : Program) (base : Nat) : Prop :=
  ∀ call, CallS P base call → ∀ nt id ops al p, cCode P nt (.region id ops true) = some (.draw al p) → ∀ tm tm' H H', doDraw call p tm H = some (tm', H') → ∀ ρ w (A : Act), TR ρ nt tm A.tmps → HR P base ρ H w →
    ∀ (b : Frame) k cs, ∃ tmps' w' ρ', Steps P (lone (b.atR A (.code (.region id ops true) :: k)) cs w) (lone (b.atR { A with tmps := tmps' } k) cs w') ∧ TR ρ' nt tm' tmps' ∧ Onto P base ρ H w ρ' H' w'

theorem cond_val {ρ : Rn} {nt : Nat} {tm : Tr AV} {A : Act} {H : Hp} {w : World} (ht : TR ρ nt tm A.tmps) (hr : HR P base ρ H w) {c : Operand} {c' : Opd} (hc : cOpd P c = some c') {t : Bool} (hv : ev tm c' = some (.B t)) : A.eval c = .bool t := by
  have := evR_of hr ht A.defers c c' _ hc hv
  simpa only [VR] using this

theorem stepR_rangeRound {b : Frame} {a : Act} {k : List Item} {cs : List Frame} {w : World} {g : Operand} {ps : Array Tmp} {assign body : Code} {l : Nat} {mark : List Deferred} {w₁ w₁' w₂ : World} {d : Deferred} {l' f : Nat} {tmps : Array Value} {x y : Code}
    (he : (Instr.enterLoop b.fn a.tmps ps assign body b.roundOf).run P w = .ok (l, mark) w₁)
    (hres : (resolve a.eval (rangeCall g l) 0).run P w₁ = .ok d w₁') (hinv : (invoke d.target d.args).run P w₁' = .ok (.round l' f tmps x y) w₂) :
    step P (lone (b.atR a (.code (.rangeFunc g ps assign body) :: k)) cs w) =
      .next (lone (Frame.round l' f tmps x y .normal) (b.atR { a with defers := mark ++ a.defers } (.inRangeFunc l :: k) :: cs) w₂) :=
  step_lone_go (by
    have hev := Frame.eval_atR b { a with defers := mark ++ a.defers } (.inRangeFunc l :: k)
    simp only [Frame.atR] at hev
    have hres' : Sem.run P (resolve ({ tmps := a.tmps, defers := mark ++ a.defers } : Act).eval { callee := .value g, args := #[.const (.func (.yield l) #[] #[])], argTypes := #[] } 0) w₁ = .ok d w₁' := hres
    simp [stepG, stepG.exec, Frame.atR, Sem.runT_eq, he, GStep.bare_after, stepG.apply, hev, Sem.run_bind, hres', hinv, Result.andThen])

/-- the records of a range over a function are laid -/
theorem loopDf_sound {ρ : Rn} {nt : Nat} {tm : Tr AV} {A : Act} {H H' : Hp} {w : World} {rd : Option Nat} {ds ds' : List Nat} {df : Nat} {b : Frame} (hx : loopDf rd ds H = some (df, ds', H')) (ht : TR ρ nt tm A.tmps) (hd : DR ρ ds A.defers)
    (hrd : RdR ρ rd b.roundOf) (hr : HR P base ρ H w) {ps : Array Nat} {x y : Code} {x' y' : AC} (hps : ∀ p ∈ ps.toList, p < nt) (h1 : cCode P nt x = some x') (h2 : cCode P nt y = some y') :
    ∃ l mark w1 ρ1, (Instr.enterLoop b.fn A.tmps ps x y b.roundOf).run P w = .ok (l, mark) w1 ∧ DR ρ1 ds' (mark ++ A.defers) ∧ (∃ N, ρ1 H'.next = some (l, N)) ∧ Onto P base ρ H w ρ1 (H'.new (.lp .ready none 0 tm 0 ps.toList x' y' df)) w1 := by
  cases rd with
  | none =>
    simp only [RdR] at hrd
    simp only [loopDf, Option.some.injEq, Prod.mk.injEq] at hx
    obtain ⟨rfl, rfl, rfl⟩ := hx
    have hon1 := hr.alloc .df (.deferred (some [])) 0 { w with heap := w.heap.push (.deferred (some [])) } rfl rfl rfl rfl (by simp only [BR])
    have hρ1 : ρ.upd H.next (w.heap.size, 0) H.next = some (w.heap.size, 0) := Rn.upd_same _ _ _
    have hon2 := hon1.hr.alloc (.lp .ready none 0 tm 0 ps.toList x' y' H.next) (.loop { state := .ready, pending := none, fn := b.fn, tmps := A.tmps, params := ps, assign := x, body := y, defers := w.heap.size }) 0
      { w with heap := (w.heap.push (.deferred (some []))).push (.loop { state := .ready, pending := none, fn := b.fn, tmps := A.tmps, params := ps, assign := x, body := y, defers := w.heap.size }) } rfl rfl rfl rfl ?_
    · refine ⟨w.heap.size + 1, [{ target := .collected w.heap.size, args := #[] }], _, _, ?_, ?_, ?_, hon1.trans hon2⟩
      · simp [Instr.enterLoop, hrd, newObj, Sem.run]
        rfl
      · simp only [List.cons_append, List.nil_append, DR]
        exact ⟨w.heap.size, 0, A.defers, rfl, hon2.le _ _ hρ1, hd.mono (hon1.le.trans hon2.le)⟩
      · exact ⟨0, by simpa using Rn.upd_same _ _ _⟩
    · simp only [BR]
      refine ⟨_, nt, rfl, rfl, trivial, (ht.mono hon1.le).mono ?_, rfl, hps, h1, h2, 0, ?_⟩
      · exact Rn.le_upd (hon1.hr.fresh _ (Nat.le_refl _))
      · exact Rn.le_upd (hon1.hr.fresh _ (Nat.le_refl _)) _ _ hρ1
  | some l0 =>
    simp only [RdR] at hrd
    obtain ⟨bl, N, hρ, hrd⟩ := hrd
    simp only [loopDf] at hx
    split at hx
    · rename_i st pd g tm0 nt0 ps0 x0 y0 df0 hg
      simp only [Option.some.injEq, Prod.mk.injEq] at hx
      obtain ⟨rfl, rfl, rfl⟩ := hx
      obtain ⟨o, ho, hbr, hbase⟩ := hr.blk l0 _ hg rfl bl N hρ
      simp only [BR] at hbr
      obtain ⟨lo, nt1, rfl, e2, e3, e4, e5, e6, e7, e8, M, e9⟩ := hbr
      have hon := hr.alloc (.lp .ready none 0 tm 0 ps.toList x' y' df0) (.loop { state := .ready, pending := none, fn := b.fn, tmps := A.tmps, params := ps, assign := x, body := y, defers := lo.defers }) 0
        { w with heap := w.heap.push (.loop { state := .ready, pending := none, fn := b.fn, tmps := A.tmps, params := ps, assign := x, body := y, defers := lo.defers }) } rfl rfl rfl rfl ?_
      · refine ⟨w.heap.size, [], _, _, ?_, ?_, ?_, hon⟩
        · simp [Instr.enterLoop, hrd, r_getLoop ho, newObj, Sem.run]
        · simpa using hd.mono hon.le
        · exact ⟨0, Rn.upd_same _ _ _⟩
      · simp only [BR]
        have hle : ρ.le (ρ.upd H.next (w.heap.size, 0)) := Rn.le_upd (hr.fresh _ (Nat.le_refl _))
        exact ⟨_, nt, rfl, rfl, trivial, ht.mono hle, rfl, hps, h1, h2, M, hle _ _ e9⟩
    · cases hx

theorem act_sound {E : Env} (hE : EnvS P base E) (hD : DrawS P base) : ∀ n, ActS P base E n
  | 0 => by intro tm todo rd ds H left H' hx; cases hx
  | n + 1 => by
    have ih := act_sound hE hD n
    have hcall := call_sound hE ih
    intro tm todo rd ds H left H' hx ρ w nt A k b cs ht hi hd hrd hk hr
    cases todo with
    | nil =>
      simp only [IRs] at hi; subst hi
      simp only [act] at hx
      exact leave_sound hx ht hd hrd hk hr (cj := none) trivial (.inl ⟨rfl, rfl⟩)
    | cons it todo =>
      simp only [IRs] at hi
      obtain ⟨y, k, rfl, hy, hi⟩ := hi
      cases it with
      | ib id =>
        cases y <;> simp only [IR] at hy
        simp only [act] at hx
        exact (ih _ _ _ _ _ _ _ hx ρ w nt A k b cs ht hi hd hrd hk hr).step hr stepR_inBlock
      | il x =>
        cases y <;> simp only [IR] at hy
        simp only [act] at hx
        exact (ih _ _ _ _ _ _ _ hx ρ w nt A _ b cs ht (IRs.one (by simp only [IR]; exact hy) (IRs.one (by simp only [IR]; exact hy) hi)) hd hrd hk hr).step hr stepR_inLoop
      | br =>
        cases y <;> simp only [IR] at hy
        simp only [act] at hx
        split at hx
        · rename_i l
          simp only [RdR] at hrd
          obtain ⟨bl, N, hρ, hrd⟩ := hrd
          split at hx
          · rename_i pd g tm0 nt0 ps x0 y0 df hg
            obtain ⟨o, ho, hbr, hbase⟩ := hr.blk l _ hg rfl bl N hρ
            simp only [BR] at hbr
            obtain ⟨lo, nt1, rfl, e2, e3, e4, e5, e6, e7, e8, M, e9⟩ := hbr
            have hon := hr.setB (a := .lp .busy pd g tm0 nt0 ps x0 y0 df) (o := .loop { lo with state := .busy }) hg rfl hρ rfl ho (by simp only [BR]; exact ⟨_, nt1, rfl, rfl, e3, e4, e5, e6, e7, e8, M, e9⟩)
            exact (ih _ _ _ _ _ _ _ hx ρ _ nt A k b cs ht hi hd (by simp only [RdR]; exact ⟨bl, N, hρ, hrd⟩) hk hon.hr).after (.one (stepR_beginRound hrd (r_beginRound ho e2))) hon
          · cases hx
        · cases hx
      | er l =>
        cases y <;> simp only [IR] at hy
        rename_i bl
        obtain ⟨N, hρ⟩ := hy
        have key : ∀ st pd g tm0 nt0 ps x0 y0 df, H.t.get l = some (.lp st pd g tm0 nt0 ps x0 y0 df) → st ≠ .busy →
            act E n tm (match pd with | some j => .c j :: todo | none => todo) rd ds (H.put l (.lp .exhausted pd g tm0 nt0 ps x0 y0 df)) = some (left, H') →
            Lands P base ρ H w (lone (b.atR A (.endRangeFunc bl :: k)) cs w) b cs nt left H' := by
          intro st pd g tm0 nt0 ps x0 y0 df hg hst hx
          obtain ⟨o, ho, hbr, hbase⟩ := hr.blk l _ hg rfl _ N hρ
          simp only [BR] at hbr
          obtain ⟨lo, nt1, rfl, e2, e3, e4, e5, e6, e7, e8, M, e9⟩ := hbr
          have hon := hr.setB (a := .lp .exhausted pd g tm0 nt0 ps x0 y0 df) (o := .loop { lo with state := .exhausted }) hg rfl hρ rfl ho (by simp only [BR]; exact ⟨_, nt1, rfl, rfl, e3, e4, e5, e6, e7, e8, M, e9⟩)
          refine (ih _ _ _ _ _ _ _ hx ρ _ nt A _ b cs ht ?_ hd hrd hk hon.hr).after (.one (stepR_endRangeFunc (r_endLoop ho (by rw [e2]; exact hst)))) hon
          cases pd with
          | none =>
            cases hp : lo.pending with
            | none => exact hi
            | some j => rw [hp] at e3; simp [PR] at e3
          | some j =>
            cases hp : lo.pending with
            | none => rw [hp] at e3; cases j <;> simp [PR] at e3
            | some c =>
              rw [hp] at e3
              refine IRs.one ?_ hi
              simp only [IR]
              cases j <;> cases c <;> simp only [PR] at e3
              · rfl
              · subst e3; rfl
        simp only [act] at hx
        split at hx
        · rename_i hg; exact key _ _ _ _ _ _ _ _ _ hg (by intro h; cases h) hx
        · rename_i hg; exact key _ _ _ _ _ _ _ _ _ hg (by intro h; cases h) hx
        · cases hx
      | c x =>
        cases y <;> simp only [IR] at hy
        rename_i y
        cases y with
        | skip =>
          simp only [cCode, Option.some.injEq] at hy; subst hy
          simp only [act] at hx
          exact (ih _ _ _ _ _ _ _ hx ρ w nt A k b cs ht hi hd hrd hk hr).step hr stepR_skip
        | label l =>
          simp only [cCode, Option.some.injEq] at hy; subst hy
          simp only [act] at hx
          exact (ih _ _ _ _ _ _ _ hx ρ w nt A k b cs ht hi hd hrd hk hr).step hr stepR_label
        | ret =>
          simp only [cCode, Option.some.injEq] at hy; subst hy
          simp only [act] at hx
          exact leave_sound hx ht hd hrd hk hr (cj := some .ret) trivial (.inr (.inl ⟨rfl, _, rfl⟩))
        | seq p q =>
          simp only [cCode] at hy
          split at hy
          · rename_i p' q' hp hq
            simp only [Option.some.injEq] at hy; subst hy
            simp only [act] at hx
            exact (ih _ _ _ _ _ _ _ hx ρ w nt A _ b cs ht (IRs.one (by simp only [IR]; exact hp) (IRs.one (by simp only [IR]; exact hq) hi)) hd hrd hk hr).step hr stepR_seq
          · cases hy
        | cond c p q =>
          simp only [cCode] at hy
          split at hy
          · rename_i c' p' q' hc hp hq
            simp only [Option.some.injEq] at hy; subst hy
            simp only [act] at hx
            split at hx
            · rename_i hv
              refine (ih _ _ _ _ _ _ _ hx ρ w nt A (.code p :: k) b cs ht (IRs.one (by simp only [IR]; exact hp) hi) hd hrd hk hr).step hr ?_
              exact stepR_cond (t := true) (cond_val ht hr hc hv)
            · rename_i hv
              refine (ih _ _ _ _ _ _ _ hx ρ w nt A (.code q :: k) b cs ht (IRs.one (by simp only [IR]; exact hq) hi) hd hrd hk hr).step hr ?_
              exact stepR_cond (t := false) (cond_val ht hr hc hv)
            · cases hx
          · cases hy
        | block id p =>
          simp only [cCode, Option.map_eq_some_iff] at hy
          obtain ⟨p', hp, rfl⟩ := hy
          simp only [act] at hx
          exact (ih _ _ _ _ _ _ _ hx ρ w nt A _ b cs ht (IRs.one (by simp only [IR]; exact hp) (IRs.one (by simp only [IR]) hi)) hd hrd hk hr).step hr stepR_block
        | loop p =>
          simp only [cCode, Option.map_eq_some_iff] at hy
          obtain ⟨p', hp, rfl⟩ := hy
          simp only [act] at hx
          exact (ih _ _ _ _ _ _ _ hx ρ w nt A _ b cs ht (IRs.one (by simp only [IR]; exact hp) (IRs.one (by simp only [IR]; exact hp) hi)) hd hrd hk hr).step hr stepR_loop
        | exit id =>
          simp only [cCode, Option.some.injEq] at hy; subst hy
          simp only [act] at hx
          have hex := exit_sound (id := id) hi
          split at hx
          · rename_i k' hk'
            obtain ⟨k2, h1, h2⟩ := hex.1 k' hk'
            exact (ih _ _ _ _ _ _ _ hx ρ w nt A _ b cs ht h2 hd hrd hk hr).step hr (stepR_exit h1)
          · rename_i hk'
            exact leave_sound hx ht hd hrd hk hr (cj := some (.exit id)) (by simp only [PR]) (.inr (.inr ⟨id, k, rfl, rfl, hex.2 hk'⟩))
        | region id ops draw =>
          cases draw with
          | false =>
            simp only [cCode, Option.map_eq_some_iff] at hy
            obtain ⟨al, hal, rfl⟩ := hy
            simp only [act] at hx
            split at hx
            · rename_i tm1 H1 h1
              have hreg := cOpers_reg ops.toList 0 hal (fun j o h => by simpa using h)
              obtain ⟨tmps', w', ρ', h2, h3, h4⟩ := ops_sound (k := k) (b := b) hcall cs _ _ hreg h1 ht hr
              refine (ih _ _ _ _ _ _ _ hx ρ' w' nt { A with tmps := tmps' } k b cs h3 (hi.mono h4.le) (hd.mono h4.le) (hrd.mono h4.le) hk h4.hr).after (.head stepR_region ?_) h4
              rw [List.range_eq_range']
              simpa using h2
            · cases hx
          | true =>
            have hy0 := hy
            simp only [cCode] at hy
            split at hy
            · rename_i al hal
              split at hy
              · rename_i p hp
                simp only [Option.some.injEq] at hy; subst hy
                simp only [act] at hx
                split at hx
                · rename_i tm1 H1 h1
                  obtain ⟨tmps', w', ρ', h2, h3, h4⟩ := hD _ hcall nt id ops al p hy0 tm tm1 H H1 h1 ρ w A ht hr b k cs
                  exact (ih _ _ _ _ _ _ _ hx ρ' w' nt { A with tmps := tmps' } k b cs h3 (hi.mono h4.le) (hd.mono h4.le) (hrd.mono h4.le) hk h4.hr).after h2 h4
                · cases hx
              · cases hy
            · cases hy
        | rangeFunc f ps p q =>
          simp only [cCode] at hy
          split at hy
          · rename_i f' p' q' hf hp hq
            cases hb : ps.toList.all (fun p => Nat.blt p nt)
            · rw [hb] at hy; cases hy
            · rw [hb] at hy
              simp only [cond_true, Option.some.injEq] at hy; subst hy
              have hps : ∀ p ∈ ps.toList, p < nt := fun p hp => by simpa [Nat.blt_eq] using List.all_eq_true.1 hb p hp
              simp only [act] at hx
              split at hx
              · rename_i g fa fc hg
                split at hx
                · rename_i df ds' H1 hl
                  split at hx
                  · rename_i av H2 hc
                    obtain ⟨l, mark, w1, ρ1, h1, h2, ⟨N, h3⟩, h4⟩ := loopDf_sound (b := b) hl ht hd hrd hr hps hp hq
                    have hfv := evR_of hr ht A.defers f f' _ hf hg
                    simp only [VR] at hfv
                    obtain ⟨as, cs', hfv, v1, v2⟩ := hfv
                    have hinv : Inv ρ1 (.k g (fa ++ [.FY H1.next] ++ fc)) (callFunc g (as ++ [Value.func (.yield l) #[] #[]] ++ cs').toArray) :=
                      .inl ⟨g, _, _, rfl, ((VRs.mono h4.le _ _ v1).append (VRs.cons (by simp only [VR]; exact ⟨l, N, h3, rfl⟩) VRs.nil)).append (VRs.mono h4.le _ _ v2), rfl⟩
                    obtain ⟨fr, v, w2, ρ2, h5, h6, h7, h8⟩ := hcall _ _ _ _ hc ρ1 w1 _ h4.hr hinv (b.atR { A with defers := mark ++ A.defers } (.inRangeFunc l :: k)) cs
                    rw [finish_atR_inRangeFunc] at h6
                    have hres : (resolve A.eval (rangeCall f l) 0).run P w1 = .ok { target := .fn (.func g) cs'.toArray, args := as.toArray ++ #[Value.func (.yield l) #[] #[]] } w1 := by
                      have e : A.eval f = .func (.func g) as.toArray cs'.toArray := hfv
                      have e2 : (rangeCall f l).args.map A.eval = #[Value.func (.yield l) #[] #[]] := by simp [Act.eval]
                      show (Deferred.ofValue (A.eval f) ((rangeCall f l).args.map A.eval)).run P w1 = _
                      rw [e, e2]
                      rfl
                    have hargs : invoke (.fn (.func g) cs'.toArray) (as.toArray ++ #[Value.func (.yield l) #[] #[]]) = callFunc g (as ++ [Value.func (.yield l) #[] #[]] ++ cs').toArray := by
                      simp only [invoke]
                      have e : as.toArray ++ #[Value.func (.yield l) #[] #[]] ++ cs'.toArray = (as ++ [Value.func (.yield l) #[] #[]] ++ cs').toArray := by apply Array.ext'; simp
                      rw [e]
                    have hst : step P (lone (b.atR A (.code (.rangeFunc f ps p q) :: k)) cs w) = .next (lone fr (b.atR { A with defers := mark ++ A.defers } (.inRangeFunc l :: k) :: cs) w1) := by
                      rcases h5 with ⟨g', vs', h5, rfl⟩ | ⟨l', g', tmps, x, y, h5, rfl⟩
                      · exact stepR_rangeFunc h1 hres (by show (invoke _ _).run P w1 = _; rw [hargs]; exact h5)
                      · exact stepR_rangeRound h1 hres (by show (invoke _ _).run P w1 = _; rw [hargs]; exact h5)
                    have hle := h4.le.trans h8.le
                    exact (ih _ _ _ _ _ _ _ hx ρ2 w2 nt { A with defers := mark ++ A.defers } (.endRangeFunc l :: k) b cs (ht.mono hle) (IRs.one (by simp only [IR]; exact ⟨N, h8.le _ _ h3⟩) (hi.mono hle)) (h2.mono h8.le) (hrd.mono hle) hk h8.hr).after
                      (.head hst h6) (h4.trans h8)
                  · cases hx
                · cases hx
              · cases hx
          · cases hy
        | _ =>
          simp only [cCode, Option.some.injEq] at hy; subst hy
          simp only [act] at hx
          cases hx

end Go.Fx
