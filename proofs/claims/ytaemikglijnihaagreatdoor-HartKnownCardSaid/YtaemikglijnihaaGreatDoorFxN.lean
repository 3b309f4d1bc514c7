/- FxN: the steps of an activation, and the calls. -/
import Derived.Test.YtaemikglijnihaaGreatDoorFxM
import Derived.RangeFuncIn
set_option linter.all false
namespace Go.Fx
variable {P : Program} {base : Nat}

/-! ### the items -/
def IR (P : Program) (ρ : Rn) (nt : Nat) : AItem → Item → Prop
  | .c x, .code c => cCode P nt c = some x
  | .ib i, .inBlock j => i = j
  | .il x, .inLoop c => cCode P nt c = some x
  | .br, .beginRound => True
  | .er l, .endRangeFunc b => ∃ N, ρ l = some (b, N)
  | _, _ => False
def IRs (P : Program) (ρ : Rn) (nt : Nat) : List AItem → List Item → Prop
  | [], k => k = []
  | x :: l, k => ∃ y r, k = y :: r ∧ IR P ρ nt x y ∧ IRs P ρ nt l r
theorem IR.mono {ρ ρ' : Rn} (h : ρ.le ρ') {nt : Nat} : ∀ {x : AItem} {y : Item}, IR P ρ nt x y → IR P ρ' nt x y
  | .c _, y, e => by cases y <;> simp only [IR] at e ⊢ <;> exact e
  | .ib _, y, e => by cases y <;> simp only [IR] at e ⊢ <;> exact e
  | .il _, y, e => by cases y <;> simp only [IR] at e ⊢ <;> exact e
  | .br, y, e => by cases y <;> simp only [IR] at e ⊢
  | .er _, y, e => by
    cases y <;> simp only [IR] at e ⊢
    obtain ⟨N, e⟩ := e; exact ⟨N, h _ _ e⟩
theorem IRs.mono {ρ ρ' : Rn} (h : ρ.le ρ') {nt : Nat} : ∀ {l : List AItem} {k : List Item}, IRs P ρ nt l k → IRs P ρ' nt l k
  | [], _, e => by simpa only [IRs] using e
  | x :: l, k, e => by
    simp only [IRs] at e ⊢
    obtain ⟨y, r, e1, e2, e3⟩ := e
    exact ⟨y, r, e1, e2.mono h, e3.mono h⟩
def DR (ρ : Rn) : List Nat → List Deferred → Prop
  | [], ds => ds = []
  | d :: l, ds => ∃ b N r, ds = { target := .collected b, args := #[] } :: r ∧ ρ d = some (b, N) ∧ DR ρ l r
theorem DR.mono {ρ ρ' : Rn} (h : ρ.le ρ') : ∀ {l : List Nat} {ds : List Deferred}, DR ρ l ds → DR ρ' l ds
  | [], _, e => by simpa only [DR] using e
  | d :: l, ds, e => by
    simp only [DR] at e ⊢
    obtain ⟨b, N, r, e1, e2, e3⟩ := e
    exact ⟨b, N, r, e1, h _ _ e2, e3.mono h⟩

theorem exit_sound {ρ : Rn} {nt id : Nat} : ∀ {l : List AItem} {k : List Item}, IRs P ρ nt l k →
    (∀ l', exitA id l = some l' → ∃ k', exitTo id k = some k' ∧ IRs P ρ nt l' k') ∧ (exitA id l = none → exitTo id k = none)
  | [], k, h => by
    simp only [IRs] at h; subst h
    exact ⟨fun l' h => by simp [exitA] at h, fun _ => rfl⟩
  | x :: l, k, h => by
    simp only [IRs] at h
    obtain ⟨y, r, rfl, h1, h2⟩ := h
    have ih := exit_sound (id := id) h2
    cases x with
    | ib j =>
      cases y <;> simp only [IR] at h1
      subst h1
      cases hb : Nat.beq j id
      · have hb' : (j == id) = false := by simp only [beq_eq_false_iff_ne]; exact Nat.ne_of_beq_eq_false hb
        simp only [exitA, exitTo, hb, hb', cond_false]
        exact ih
      · have hb' : (j == id) = true := by simp only [beq_iff_eq]; exact Nat.eq_of_beq_eq_true hb
        simp only [exitA, exitTo, hb, hb', cond_true, if_true]
        exact ⟨fun l' h => by simp only [Option.some.injEq] at h; subst h; exact ⟨r, rfl, h2⟩, fun h => by cases h⟩
    | c a => cases y <;> simp only [IR] at h1; exact ih
    | il a => cases y <;> simp only [IR] at h1; exact ih
    | br => cases y <;> simp only [IR] at h1; exact ih
    | er a => cases y <;> simp only [IR] at h1; exact ih

/-! ### the slots -/
theorem TR.put {ρ : Rn} {nt : Nat} {tm : Tr AV} {tmps : Array Value} (h : TR ρ nt tm tmps) {d : Nat} (hd : d < nt) {a : AV} {v : Value} (hv : VR ρ a v) : TR ρ nt (tm.set a d) (tmps.setIfInBounds d v) := by
  refine ⟨by simpa using h.1, fun i c hi => ?_⟩
  rw [Tr.get_set] at hi
  by_cases hid : i = d
  · subst hid
    rw [if_pos rfl] at hi
    simp only [Option.some.injEq] at hi; subst hi
    exact ⟨v, by rw [Array.getElem?_setIfInBounds_self_of_lt (by rw [h.1]; exact hd)], hv⟩
  · rw [if_neg hid] at hi
    obtain ⟨u, h1, h2⟩ := h.2 i c hi
    exact ⟨u, by rw [Array.getElem?_setIfInBounds_ne (by omega)]; exact h1, h2⟩

theorem TR.setArgs {ρ : Rn} {nt : Nat} : ∀ {args : List AV} {vs : List Value} (i : Nat) {tm : Tr AV} {tmps : Array Value}, VRs ρ args vs → TR ρ nt tm tmps → i + args.length ≤ nt →
    (∀ j v, vs[j]? = some v → tmps[i + j]? = some v) → TR ρ nt (Fx.setArgs args i tm) tmps
  | [], vs, i, tm, tmps, _, ht, _, _ => ht
  | a :: l, vs, i, tm, tmps, h, ht, hn, hv => by
    simp only [VRs] at h
    obtain ⟨v, r, rfl, h1, h2⟩ := h
    have h0 : tmps[i]? = some v := hv 0 v rfl
    refine TR.setArgs (i + 1) h2 ⟨ht.1, fun j c hj => ?_⟩ (by simp only [List.length_cons] at hn; omega) ?_
    · rw [Tr.get_set] at hj
      by_cases hid : j = i
      · subst hid
        rw [if_pos rfl] at hj
        simp only [Option.some.injEq] at hj; subst hj
        exact ⟨v, h0, h1⟩
      · rw [if_neg hid] at hj
        exact ht.2 j c hj
    · intro j u hu
      have := hv (j + 1) u (by simpa using hu)
      rw [← this]; congr 1; omega

theorem TR.enter {ρ : Rn} {nt : Nat} {args : List AV} {vs : List Value} (h : VRs ρ args vs) (hn : args.length ≤ nt) :
    TR ρ nt (Fx.setArgs args 0 .e) (vs.toArray ++ Array.replicate (nt - vs.length) undef) := by
  have hl := h.len
  refine TR.setArgs 0 h ⟨by simp; omega, fun i a hi => by cases i <;> cases hi⟩ (by omega) ?_
  intro j v hv
  have hj : j < vs.length := by
    rcases Nat.lt_or_ge j vs.length with h | h
    · exact h
    · rw [List.getElem?_eq_none h] at hv; cases hv
  rw [Nat.zero_add, Array.getElem?_append_left (by simpa using hj)]
  simpa using hv

/-! ### what is wanted -/
theorem wantedA_sound {ρ : Rn} {nt : Nat} {tm : Tr AV} {tmps : Array Value} (ht : TR ρ nt tm tmps) {ops : Array Oper} {o : Oper} {ao : AOper} (hc : cOper P nt ops o = some ao) {r : Bool}
    (hw : wantedA tm ao.guard = some r) : Region.wanted o (yielded ops tmps) = r := by
  unfold cOper at hc
  split at hc
  · cases hc
  · split at hc
    · rename_i hg
      simp only [Option.some.injEq] at hc; subst hc
      simp only [wantedA, Option.some.injEq] at hw; subst hw
      simp [Region.wanted, hg]
    · rename_i j want hg
      split at hc
      · rename_i d hd
        simp only [Option.some.injEq] at hc; subst hc
        simp only [wantedA] at hw
        simp only [Region.wanted, hg, yielded, hd, Option.bind_some]
        split at hw
        · rename_i b hb
          simp only [Option.some.injEq] at hw; subst hw
          obtain ⟨v, h1, h2⟩ := ht.2 d _ hb
          simp only [VR] at h2; subst h2
          simp [h1]
        · rename_i a hna ha
          simp only [Option.some.injEq] at hw; subst hw
          obtain ⟨v, h1, h2⟩ := ht.2 d _ ha
          rw [h1]
          have : ∀ b, v ≠ .bool b := by
            intro b hv; subst hv
            cases a <;> simp only [VR] at h2 <;> first | (cases h2; done) | (obtain ⟨_, h, _⟩ := h2; cases h; done) | (obtain ⟨_, _, h⟩ := h2; cases h.2; done) | skip
            all_goals first
              | (simp only [Value.bool.injEq] at h2; subst h2; exact hna _ rfl)
              | (obtain ⟨_, _, _, h, _⟩ := h2; cases h; done)
              | (obtain ⟨_, _, _, _, h, _⟩ := h2; cases h; done)
              | (obtain ⟨_, _, h, _⟩ := h2; cases h; done)
          cases v <;> first | (exact absurd rfl (this _)) | rfl
        · cases hw
      · cases hc

theorem cOper_spec {nt : Nat} {ops : Array Oper} {o : Oper} {ao : AOper} (hc : cOper P nt ops o = some ao) : ao.dst = o.dst ∧ ao.op = (cOp P o).getD .bad ∧ ∀ d, o.dst = some d → d < nt := by
  unfold cOper at hc
  split at hc
  · cases hc
  · rename_i u hu
    have hd : ∀ d, o.dst = some d → d < nt := by
      intro d hd
      rw [hd] at hu
      simp only at hu
      cases hb : Nat.blt d nt
      · rw [hb] at hu; cases hu
      · simpa [Nat.blt_eq] using hb
    split at hc
    · simp only [Option.some.injEq] at hc; subst hc; exact ⟨rfl, rfl, hd⟩
    · split at hc
      · simp only [Option.some.injEq] at hc; subst hc; exact ⟨rfl, rfl, hd⟩
      · cases hc

/-! ### the calls -/
/-- where a call leads: into a function's body, or into a round -/
def Ent (P : Program) (s : Sem Next) (w : World) (fr : Frame) : Prop :=
  (∃ g vs, s.run P w = .ok (.enter g vs) w ∧ fr = Frame.enter P g vs .normal) ∨
  (∃ l g tmps x y, s.run P w = .ok (.round l g tmps x y) w ∧ fr = Frame.round l g tmps x y .normal)
/-- the call that an abstract one stands for -/
def Inv (ρ : Rn) (r : Res) (s : Sem Next) : Prop :=
  (∃ g args vs, r = .k g args ∧ VRs ρ args vs ∧ s = callFunc g vs.toArray) ∨
  (∃ l args b N vs, r = .y l args ∧ ρ l = some (b, N) ∧ VRs ρ args vs ∧ s = Instr.yield b vs.toArray)
/-- what is asked of the calls' answers -/
def CallS (P : Program) (base : Nat) (call : Res → Hp → Option (AV × Hp)) : Prop :=
  ∀ r H a H', call r H = some (a, H') → ∀ ρ w s, HR P base ρ H w → Inv ρ r s → ∀ c cs, ∃ fr v w' ρ', Ent P s w fr ∧
    Steps P (lone fr (c :: cs) w) (lone (c.finish v) cs w') ∧ VR ρ' a v ∧ Onto P base ρ H w ρ' H' w'

theorem VRs.of_append {ρ : Rn} {l m : List AV} {vs us : List Value} (h : VRs ρ l vs) (k : VRs ρ m us) : VRs ρ (l ++ m) (vs ++ us) := h.append k

theorem aexec_v {ao : AO} {tm : Tr AV} {H : Hp} {r : Res} (hn : isCall ao = false) (hx : aexec ao tm H = some r) : ∃ a H', r = .v a H' := by
  cases ao <;> simp only [isCall, Bool.true_eq_false] at hn <;> simp only [aexec, doSlice, doAppend, doCopy, grown, ok, Bool.cond_eq_ite] at hx <;> (repeat' split at hx) <;>
    first
    | (cases hx; done)
    | (simp only [Option.some.injEq] at hx; subst hx; exact ⟨_, _, rfl⟩)
theorem cOp_call {o : Oper} {ao : AO} (hc : cOp P o = some ao) (hn : isCall ao = true) : ∃ c, o.op = .call c := by
  cases ho : o.op <;> first | exact ⟨_, rfl⟩ | skip
  all_goals
    exfalso
    simp only [cOp, ho, Bool.cond_eq_ite] at hc
    repeat' split at hc
    all_goals first
      | (cases hc; done)
      | (simp only [Option.some.injEq] at hc; subst hc; cases hn; done)
      | (simp only [Option.map_eq_some_iff] at hc; obtain ⟨_, _, hc⟩ := hc; subst hc; cases hn; done)
      | contradiction
theorem aexec_bad {tm : Tr AV} {H : Hp} {r : Res} (hx : aexec .bad tm H = some r) : False := by cases hx

theorem exec_calls {ρ : Rn} {tm : Tr AV} {H : Hp} {w : World} {f : Operand → Value} {o : Oper} {ao : AO} {r : Res} (hc : cOp P o = some ao) (hx : aexec ao tm H = some r) (hr : ∀ a H', r ≠ .v a H') (he : EvR P ρ tm f) :
    ∃ s, Inv ρ r s ∧ (execOp f o).run P w = s.run P w := by
  cases hn : isCall ao
  · obtain ⟨a, H', e⟩ := aexec_v hn hx
    exact absurd e (hr a H')
  obtain ⟨c, ho⟩ := cOp_call hc hn
  have hargs : ∀ {ys l}, cOpds P c.args.toList = some ys → evs tm ys = some l → VRs ρ l (c.args.map f).toList := by
    intro ys l h1 h2
    have := evs_sound he h1 h2
    simpa using this
  simp only [cOp, ho, Bool.cond_eq_ite] at hc
  split at hc
  · rename_i g args hcal hcs
    have key : ao = .cs g args := by
      repeat' split at hc
      all_goals first
        | (cases hc; done)
        | (simp only [Option.some.injEq] at hc; subst hc; cases hn; done)
        | (simp only [Option.some.injEq] at hc; exact hc.symm)
    subst key
    simp only [aexec] at hx
    split at hx
    · rename_i l hl
      simp only [Option.some.injEq] at hx; subst hx
      refine ⟨callFunc g (c.args.map f).toList.toArray, .inl ⟨g, l, _, rfl, hargs hcs hl, rfl⟩, ?_⟩
      simp only [execOp, ho, Sem.run_bind, resolve, hcal, fFn he g, Deferred.ofValue, Sem.run_pure, Result.andThen_ok, invoke, Array.toArray_toList]
      simp
    · cases hx
  · rename_i x args _ hcal hcs
    simp only [Option.map_eq_some_iff] at hc
    obtain ⟨x', hx', rfl⟩ := hc
    simp only [aexec] at hx
    split at hx
    · rename_i g as cs l hg hl
      simp only [Option.some.injEq] at hx; subst hx
      have hv := he x x' _ hx' hg
      simp only [VR] at hv
      obtain ⟨as', cs', hv, h1, h2⟩ := hv
      refine ⟨callFunc g (as' ++ (c.args.map f).toList ++ cs').toArray, .inl ⟨g, _, _, rfl, (h1.append (hargs hcs hl)).append h2, rfl⟩, ?_⟩
      simp only [execOp, ho, Sem.run_bind, resolve, hcal, hv, Deferred.ofValue, Sem.run_pure, Result.andThen_ok, invoke]
      congr 2
      apply Array.ext'
      simp
    · rename_i lp l hg hl
      simp only [Option.some.injEq] at hx; subst hx
      have hv := he x x' _ hx' hg
      simp only [VR] at hv
      obtain ⟨b, N, hb, hv⟩ := hv
      refine ⟨Instr.yield b (c.args.map f).toList.toArray, .inr ⟨lp, l, b, N, _, rfl, hb, hargs hcs hl, rfl⟩, ?_⟩
      simp only [execOp, ho, Sem.run_bind, resolve, hcal, hv, Deferred.ofValue, Sem.run_pure, Result.andThen_ok, invoke, Array.toArray_toList]
      simp
    · cases hx
  all_goals
    exfalso
    repeat' split at hc
    all_goals first
      | (cases hc; done)
      | (simp only [Option.some.injEq] at hc; subst hc; cases hn; done)
      | (simp only [Option.map_eq_some_iff] at hc; obtain ⟨_, _, hc⟩ := hc; subst hc; cases hn; done)

theorem cOp_noDefer {o : Oper} {ao : AO} (hc : cOp P o = some ao) : ∀ c, o.op ≠ .defer c := by
  intro c h; simp [cOp, h] at hc

/-! ### one operation's step -/
def putT (tmps : Array Value) (dst : Option Nat) (v : Value) : Array Value :=
  match dst with
  | some d => tmps.setIfInBounds d v
  | none => tmps
theorem put_act (a : Act) (dst : Option Nat) (v : Value) : a.put dst v = { a with tmps := putT a.tmps dst v } := by cases dst <;> rfl

theorem TR.putD {ρ : Rn} {nt : Nat} {tm : Tr AV} {tmps : Array Value} (h : TR ρ nt tm tmps) {dst : Option Nat} (hd : ∀ d, dst = some d → d < nt) {a : AV} {v : Value} (hv : VR ρ a v) :
    TR ρ nt (Fx.putD tm dst a) (putT tmps dst v) := by
  cases dst with
  | none => exact h
  | some d => exact h.put (hd d rfl) hv

theorem evR_of {ρ : Rn} {w : World} {H : Hp} (hr : HR P base ρ H w) {nt : Nat} {tm : Tr AV} {tmps : Array Value} (ht : TR ρ nt tm tmps) (ds : List Deferred) : EvR P ρ tm ({ tmps := tmps, defers := ds } : Act).eval :=
  ev_of_globals hr ht _ (by funext x; cases x <;> rfl)

/-- the answer of an operation that is wanted: an abstract one, and how the model's machine comes to it -/
theorem want_sound {call : Res → Hp → Option (AV × Hp)} (hcall : CallS P base call) {ρ : Rn} {tm : Tr AV} {H : Hp} {w : World} {o : Oper} {ao : AO} (hc : cOp P o = some ao) {a : AV} {H' : Hp}
    (hx : (match aexec ao tm H with | some (.v a H') => some (a, H') | some r => call r H | none => none) = some (a, H'))
    {A : Act} (he : EvR P ρ tm A.eval) (hr : HR P base ρ H w) {b : Frame} {ops : Array Oper} {i : Nat} {rest : List Nat} {k : List Item} (hi : ops[i]? = some o)
    (hw : Region.wanted o (yielded ops A.tmps) = true) (cs : List Frame) :
    ∃ v w' ρ', Steps P (lone (b.atR A (.inRegion ops (i :: rest) :: k)) cs w) (lone (b.atR (A.put o.dst v) (.inRegion ops rest :: k)) cs w') ∧ VR ρ' a v ∧ Onto P base ρ H w ρ' H' w' := by
  have hfin : ∀ v, (b.atR A (.inRegion ops (i :: rest) :: k)).finish v = b.atR (A.put o.dst v) (.inRegion ops rest :: k) := by
    intro v; rw [Frame.finish_atR, hi]; rfl
  have hg := stepGR_op (P := P) (b := b) (a := A) (k := k) (cs := cs) (w := w) (rest := rest) hi hw
  rw [Oper.semAt_eq _ _ _ (cOp_noDefer hc)] at hg
  split at hx
  · rename_i a0 H0 he0
    simp only [Option.some.injEq, Prod.mk.injEq] at hx
    obtain ⟨rfl, rfl⟩ := hx
    obtain ⟨nx, w', ρ', hrun, hans, hon⟩ := exec_sound hc he0 he hr
    rcases hans with ⟨v, rfl, hv⟩ | ⟨rfl, hv⟩
    · refine ⟨v, w', ρ', .one (step_lone_go ?_), hv, hon⟩
      rw [hg, ← hfin]; simp [stepG.apply, hrun]
    · refine ⟨undef, w', ρ', .one (step_lone_go ?_), hv, hon⟩
      rw [hg, ← hfin]; simp [stepG.apply, hrun]
  · rename_i r hnv he0
    obtain ⟨s, hinv, hrun⟩ := exec_calls (w := w) hc he0 hnv he
    obtain ⟨fr, v, w', ρ', hent, hst, hv, hon⟩ := hcall r H a H' hx ρ w s hr hinv (b.atR A (.inRegion ops (i :: rest) :: k)) cs
    rw [hfin] at hst
    refine ⟨v, w', ρ', .head ?_ hst, hv, hon⟩
    refine step_lone_go ?_
    rw [hg]
    rcases hent with ⟨g, vs, h1, rfl⟩ | ⟨l, g, tmps, x, y, h1, rfl⟩
    · rw [← hrun] at h1; simp [stepG.apply, h1, Frame.atR]
    · rw [← hrun] at h1; simp [stepG.apply, h1, Frame.atR]
  · cases hx

end Go.Fx
