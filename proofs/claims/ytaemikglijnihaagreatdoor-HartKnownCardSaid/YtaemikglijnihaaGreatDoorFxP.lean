/- FxP: the records of loops, the marks, and an activation. -/
import Derived.Test.YtaemikglijnihaaGreatDoorFxO
import Derived.RangeFuncLeaves
set_option linter.all false
namespace Go.Fx
variable {P : Program} {base : Nat}

/-! ### the records -/
theorem r_getObj {w : World} {b : Nat} {o : Obj} (h : w.heap[b]? = some o) (hn : ∀ vs t fz, o ≠ .cells vs t fz) : (getObj b).run P w = .ok o w := by
  unfold getObj
  cases o <;> first | (simp only [Sem.run, h]; done) | exact absurd rfl (hn _ _ _)
theorem r_setObj {w : World} {b : Nat} {o : Obj} (o' : Obj) (h : w.heap[b]? = some o) (hn : ∀ vs t fz, o ≠ .cells vs t fz) : (setObj b o').run P w = .ok () { w with heap := w.heap.setIfInBounds b o' } := by
  unfold setObj
  cases o <;> first | (simp only [Sem.run, h]; done) | exact absurd rfl (hn _ _ _)
theorem r_getLoop {w : World} {b : Nat} {lo : Loop} (h : w.heap[b]? = some (.loop lo)) : (Instr.getLoop b).run P w = .ok lo w := by
  simp only [Instr.getLoop, Sem.run_bind, r_getObj h (fun _ _ _ e => by cases e), Result.andThen_ok, Sem.run_pure]

def setB (w : World) (b : Nat) (o : Obj) : World := { w with heap := w.heap.setIfInBounds b o }
theorem setB_at {w : World} {b : Nat} {o o' : Obj} (h : w.heap[b]? = some o') : (setB w b o).heap[b]? = some o := by
  have : b < w.heap.size := by
    rcases Nat.lt_or_ge b w.heap.size with h1 | h1
    · exact h1
    · rw [Array.getElem?_eq_none h1] at h; cases h
  simp [setB, Array.getElem?_setIfInBounds_self_of_lt this]
theorem setB_ne {w : World} {b k : Nat} {o : Obj} (h : k ≠ b) : (setB w b o).heap[k]? = w.heap[k]? := by
  simp [setB, Array.getElem?_setIfInBounds_ne (Ne.symm h)]

/-- a block that is no row of cells is written anew on both sides -/
theorem HR.setB {ρ : Rn} {H : Hp} {w : World} (hr : HR P base ρ H w) {id b N : Nat} {a0 a : AB} {o o' : Obj} (hg : H.t.get id = some a0) (hd : a0.isDead = false) (hb : ρ id = some (b, N)) (hro : a0.ro = false)
    (ho : w.heap[b]? = some o') (hbr : BR P ρ N a o) : Onto P base ρ H w ρ (H.put id a) (setB w b o) :=
  hr.obj hg hd hb hro _ o (setB_at ho) hbr (by simp [Fx.setB]) (fun k hk => setB_ne hk) rfl rfl rfl

theorem r_endRound {w : World} {b : Nat} {lo : Loop} (h : w.heap[b]? = some (.loop lo)) (j : Option Code) :
    (Instr.endRound b j).run P w = .ok (.bool j.isNone) (setB w b (.loop { lo with state := if j.isNone then .ready else .done, pending := j })) := by
  simp only [Instr.endRound, Sem.run_bind, r_getLoop h, Result.andThen_ok, r_setObj _ h (fun _ _ _ e => by cases e), Sem.run_pure]
  rfl
theorem r_beginRound {w : World} {b : Nat} {lo : Loop} (h : w.heap[b]? = some (.loop lo)) (hs : lo.state = .ready) :
    (Instr.beginRound b).run P w = .ok () (setB w b (.loop { lo with state := .busy })) := by
  simp only [Instr.beginRound, Sem.run_bind, r_getLoop h, Result.andThen_ok, r_setObj _ h (fun _ _ _ e => by cases e), hs, Sem.run_pure]
  rfl
theorem r_endLoop {w : World} {b : Nat} {lo : Loop} (h : w.heap[b]? = some (.loop lo)) (hs : lo.state ≠ .busy) :
    (Instr.endLoop b).run P w = .ok lo.pending (setB w b (.loop { lo with state := .exhausted })) := by
  have : (lo.state == .busy) = false := by cases h : lo.state <;> first | rfl | exact absurd h hs
  simp [Instr.endLoop, r_getLoop h, r_setObj _ h (fun _ _ _ e => by cases e), setB, hs]
theorem r_take {w : World} {b : Nat} {ds : List Deferred} (h : w.heap[b]? = some (.deferred (some ds))) :
    (Instr.takeDeferred b).run P w = .ok ds (setB w b (.deferred none)) := by
  simp only [Instr.takeDeferred, Sem.run_bind, r_getObj h (fun _ _ _ e => by cases e), r_setObj _ h (fun _ _ _ e => by cases e), Result.andThen_ok, Sem.run_pure]
  rfl

/-! ### the marks -/
theorem take_sound {ρ : Rn} : ∀ (ds : List Nat) {H H' : Hp} {w : World} {fr : Frame} (cs : List Frame), takeMarks ds H = some H' → DR ρ ds fr.defers → fr.mode = .returning → HR P base ρ H w →
    ∃ w', Steps P (lone fr cs w) (lone { fr with defers := [] } cs w') ∧ Onto P base ρ H w ρ H' w'
  | [], H, H', w, fr, cs, hx, hd, hm, hr => by
    simp only [takeMarks, Option.some.injEq] at hx; subst hx
    simp only [DR] at hd
    refine ⟨w, ?_, Onto.refl hr⟩
    have : { fr with defers := [] } = fr := by rw [← hd]
    rw [this]; exact Steps.refl _ _
  | d :: l, H, H', w, fr, cs, hx, hd, hm, hr => by
    simp only [takeMarks] at hx
    split at hx
    · rename_i hg
      simp only [DR] at hd
      obtain ⟨b, N, r, hfr, hρ, hd⟩ := hd
      obtain ⟨o, ho, hbr, _⟩ := hr.blk d _ hg rfl b N hρ
      simp only [BR] at hbr
      subst hbr
      have hst := step_collected (P := P) (fr := fr) (cs := cs) (by rw [hm]; exact fun h => by cases h) hfr rfl (r_take ho)
      have hon := hr.setB (a := .dead) (o := .deferred none) hg rfl hρ rfl ho trivial
      obtain ⟨w', h1, h2⟩ := take_sound l (fr := { fr with defers := r }) cs hx hd hm hon.hr
      exact ⟨w', .head hst h1, hon.trans h2⟩
    · cases hx

/-! ### what an activation comes to -/
def Lands (P : Program) (base : Nat) (ρ : Rn) (H : Hp) (w : World) (m : Machine) (b : Frame) (cs : List Frame) (nt : Nat) : Left → Hp → Prop
  | .fn tm' ds', H' => ∃ A' k' w' ρ', Steps P m (lone { b.atR A' k' with mode := .returning } cs w') ∧ TR ρ' nt tm' A'.tmps ∧ DR ρ' ds' A'.defers ∧ Onto P base ρ H w ρ' H' w' ∧ b.roundOf = none
  | .rd v, H' => ∀ c cs0, cs = c :: cs0 → ∃ w' ρ', Steps P m (lone (c.finish (.bool v)) cs0 w') ∧ Onto P base ρ H w ρ' H' w'

theorem Lands.after {ρ ρ1 : Rn} {H H1 H' : Hp} {w w1 : World} {m m1 : Machine} {b : Frame} {cs : List Frame} {nt : Nat} {left : Left} (hs : Steps P m m1) (hon : Onto P base ρ H w ρ1 H1 w1)
    (h : Lands P base ρ1 H1 w1 m1 b cs nt left H') : Lands P base ρ H w m b cs nt left H' := by
  cases left with
  | fn tm' ds' =>
    obtain ⟨A', k', w', ρ', h1, h2, h3, h4, h5⟩ := h
    exact ⟨A', k', w', ρ', hs.trans h1, h2, h3, hon.trans h4, h5⟩
  | rd v =>
    intro c cs0 hc
    obtain ⟨w', ρ', h1, h2⟩ := h c cs0 hc
    exact ⟨w', ρ', hs.trans h1, hon.trans h2⟩
theorem Lands.step {ρ : Rn} {H H' : Hp} {w : World} {m m1 : Machine} {b : Frame} {cs : List Frame} {nt : Nat} {left : Left} (hr : HR P base ρ H w) (hs : step P m = .next m1)
    (h : Lands P base ρ H w m1 b cs nt left H') : Lands P base ρ H w m b cs nt left H' := h.after (.one hs) (Onto.refl hr)

def RdR (ρ : Rn) : Option Nat → Option Nat → Prop
  | none, r => r = none
  | some l, r => ∃ b N, ρ l = some (b, N) ∧ r = some b
theorem RdR.mono {ρ ρ' : Rn} (h : ρ.le ρ') : ∀ {rd r : Option Nat}, RdR ρ rd r → RdR ρ' rd r
  | none, _, e => e
  | some _, _, ⟨b, N, e1, e2⟩ => ⟨b, N, h _ _ e1, e2⟩

/-- an activation is left -/
theorem leave_sound {ρ : Rn} {nt : Nat} {tm : Tr AV} {H H' : Hp} {w : World} {A : Act} {b : Frame} {cs : List Frame} {rd : Option Nat} {ds : List Nat} {left : Left} {jump : Option AC} {k : List Item} {cj : Option Code}
    (hx : leaveA tm rd ds H jump = some (left, H')) (ht : TR ρ nt tm A.tmps) (hd : DR ρ ds A.defers) (hrd : RdR ρ rd b.roundOf) (hk : b.kind = .normal) (hr : HR P base ρ H w) (hpr : PR jump cj)
    (hkk : (jump = none ∧ k = []) ∨ (jump = some .ret ∧ ∃ r, k = .code .ret :: r) ∨ (∃ i r, jump = some (.exit i) ∧ k = .code (.exit i) :: r ∧ exitTo i r = none)) :
    Lands P base ρ H w (lone (b.atR A k) cs w) b cs nt left H' := by
  cases rd with
  | none =>
    simp only [RdR] at hrd
    rcases hkk with ⟨rfl, rfl⟩ | ⟨rfl, r, rfl⟩ | ⟨i, r, rfl, rfl, _⟩
    · simp only [leaveA, Option.some.injEq, Prod.mk.injEq] at hx
      obtain ⟨rfl, rfl⟩ := hx
      exact ⟨A, _, w, ρ, .one (stepR_end hrd), ht, hd, Onto.refl hr, hrd⟩
    · simp only [leaveA, Option.some.injEq, Prod.mk.injEq] at hx
      obtain ⟨rfl, rfl⟩ := hx
      exact ⟨A, _, w, ρ, .one (stepR_ret hrd), ht, hd, Onto.refl hr, hrd⟩
    · simp [leaveA] at hx
  | some l =>
    simp only [RdR] at hrd
    obtain ⟨bl, N, hρ, hrd⟩ := hrd
    simp only [leaveA, endRd] at hx
    split at hx
    · rename_i st pd g tm0 nt0 ps x y df hg
      obtain ⟨o, ho, hbr, hbase⟩ := hr.blk l _ hg rfl bl N hρ
      simp only [BR] at hbr
      obtain ⟨lo, nt1, rfl, e2, e3, e4, e5, e6, e7, e8, M, e9⟩ := hbr
      have fin : ∀ (v : Bool) (j : Option Code) (pd' : Option AC), PR pd' j → v = j.isNone → left = .rd v → H' = H.put l (.lp (if v then .ready else .done) pd' g tm0 nt0 ps x y df) →
          (∀ c cs0, cs = c :: cs0 → step P (lone (b.atR A k) (c :: cs0) w) = .next (lone (c.finish (.bool j.isNone)) cs0 (setB w bl (.loop { lo with state := if j.isNone then .ready else .done, pending := j })))) →
          Lands P base ρ H w (lone (b.atR A k) cs w) b cs nt left H' := by
        intro v j pd' hp hv hl hH hst
        subst hl; subst hH
        intro c cs0 hc
        have := hst c cs0 hc
        rw [hc]
        refine ⟨_, ρ, by rw [hv]; exact .one this, ?_⟩
        refine hr.setB hg rfl hρ rfl ho ?_
        simp only [BR]
        refine ⟨_, nt1, rfl, ?_, hp, e4, e5, e6, e7, e8, M, e9⟩
        rw [hv]
      cases jump with
      | none =>
        simp only [Option.some.injEq, Prod.mk.injEq] at hx
        rcases hkk with ⟨_, rfl⟩ | ⟨h, _⟩ | ⟨_, _, h, _⟩
        · refine fin true none none trivial rfl hx.1.symm hx.2.symm (fun c cs0 hc => ?_)
          exact stepR_round_end hrd hk (r_endRound ho none)
        · cases h
        · cases h
      | some j =>
        simp only [Option.some.injEq, Prod.mk.injEq] at hx
        rcases hkk with ⟨h, _⟩ | ⟨h, r, rfl⟩ | ⟨i, r, h, rfl, hex⟩
        · cases h
        · simp only [Option.some.injEq] at h; subst h
          refine fin false (some .ret) (some .ret) trivial rfl hx.1.symm hx.2.symm (fun c cs0 hc => ?_)
          exact stepR_round_ret hrd hk (r_endRound ho (some .ret))
        · simp only [Option.some.injEq] at h; subst h
          refine fin false (some (.exit i)) (some (.exit i)) rfl rfl hx.1.symm hx.2.symm (fun c cs0 hc => ?_)
          exact stepR_round_exit hrd hk hex (r_endRound ho (some (.exit i)))
    · cases hx

end Go.Fx
