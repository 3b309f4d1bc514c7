/- FxZf: tables of compiled functions; closed runs over the program's own tables alone, as contracts. -/
import Derived.Test.YtaemikglijnihaaGreatDoorFxZe
import Derived.Below
set_option linter.all false
namespace Go.Fx
open Go.RowKit
variable {P : Program} {base : Nat}

/-- each function of a table is compiled from the program's text -/
inductive TabS (P : Program) : List (Nat × AFn) → Prop where
  | nil : TabS P []
  | cons {f : Nat} {a : AFn} {l : List (Nat × AFn)} : cFn P f = some a → TabS P l → TabS P ((f, a) :: l)

noncomputable def tabTr : List (Nat × AFn) → Tr AFn
  | [] => .e
  | x :: l => (tabTr l).set x.2 x.1
theorem tabTr_get : ∀ {l : List (Nat × AFn)}, TabS P l → ∀ f a, (tabTr l).get f = some a → cFn P f = some a
  | [], _, f, a, e => by cases e
  | x :: l, h, f, a, e => by
    cases h with
    | @cons f0 a0 _ h1 h2 =>
      simp only [tabTr, Tr.get_set] at e
      by_cases hf : f = f0
      · rw [if_pos hf] at e
        cases e; subst hf; exact h1
      · rw [if_neg hf] at e
        exact tabTr_get h2 f a e

/-- the program's own tables in a heap, and nothing else -/
noncomputable def globTr : List (Nat × AB) → Tr AB
  | [] => .e
  | x :: l => (globTr l).set x.2 x.1
noncomputable def globHp (gs : List (Nat × AB)) (n : Nat) : Hp := ⟨globTr gs, n⟩

/-- the blocks of some tables, as a world has them: only data without addresses -/
structure GlobS (P : Program) (gs : List (Nat × AB)) (w : World) : Prop where
  all : ∀ g, g < P.globals.size → g < w.heap.size
  each : ∀ x ∈ gs, x.1 < P.globals.size ∧ ∃ t cs vs fz, x.2 = .c t true cs ∧ w.heap[x.1]? = some (.cells vs t fz) ∧ ∀ ρ, VRs ρ cs vs.toList

noncomputable def sizeAt (w : World) (b : Nat) : Nat := match w.heap[b]? with | some (.cells vs _ _) => vs.size | _ => 0
noncomputable def globRn (P : Program) (w : World) : Rn := fun i => if i < P.globals.size then some (i, sizeAt w i) else none

theorem globTr_get : ∀ {gs : List (Nat × AB)} {i : Nat} {a : AB}, (globTr gs).get i = some a → ∃ x ∈ gs, x.1 = i ∧ x.2 = a
  | [], i, a, e => by cases e
  | x :: l, i, a, e => by
    simp only [globTr, Tr.get_set] at e
    by_cases hi : i = x.1
    · rw [if_pos hi] at e; cases e; exact ⟨x, by simp, hi.symm, rfl⟩
    · rw [if_neg hi] at e
      obtain ⟨y, h1, h2⟩ := globTr_get e
      exact ⟨y, by simp [h1], h2⟩

theorem GlobS.hr {gs : List (Nat × AB)} {w : World} (h : GlobS P gs w) : HR P w.heap.size (globRn P w) (globHp gs P.globals.size) w where
  blk i a hg hd b N hb := by
    obtain ⟨x, hx, rfl, rfl⟩ := globTr_get hg
    obtain ⟨h1, t, cs, vs, fz, h2, h3, h4⟩ := h.each x hx
    simp only [globRn, if_pos h1, Option.some.injEq, Prod.mk.injEq] at hb
    obtain ⟨rfl, rfl⟩ := hb
    refine ⟨_, h3, ?_, ?_⟩
    · rw [h2]
      simp only [BR]
      exact ⟨vs, fz, rfl, by simp [sizeAt, h3], h4 _, fun e => by cases e⟩
    · intro e; rw [h2] at e; cases e
  inj i j a c b N M h1 h2 h3 h4 h5 h6 := by
    simp only [globRn] at h5 h6
    split at h5
    · split at h6
      · simp only [Option.some.injEq, Prod.mk.injEq] at h5 h6; omega
      · cases h6
    · cases h5
  fresh i hi := by
    simp only [globHp] at hi
    simp only [globRn]; rw [if_neg (by omega)]
  low i a hg := by
    obtain ⟨x, hx, rfl, rfl⟩ := globTr_get hg
    exact (h.each x hx).1
  big := Nat.le_refl _
  rng i b N hb := by
    simp only [globRn] at hb
    split at hb
    · simp only [Option.some.injEq, Prod.mk.injEq] at hb
      obtain ⟨rfl, _⟩ := hb
      exact h.all _ ‹_›
    · cases hb
  glob g hg := ⟨_, by simp only [globRn]; rw [if_pos hg]⟩

/-- what was reached leaves all that was there -/
theorem Onto.below {ρ ρ' : Rn} {H H' : Hp} {w w' : World} (h : Onto P w.heap.size ρ H w ρ' H' w') : Below w.heap.size w w' := ⟨h.os, h.tape, h.output, h.size, h.low⟩

/-- a closed function's run, over the program's own tables: in every world that has these -/
theorem closed_calls {E : Env} (hE : ∀ base, EnvS P base E) {n : Nat} {f : FuncId} {a : AFn} (hf : cFn P f = some a) {gs : List (Nat × AB)} {args : List AV} {vs : List Value} {x : AV} {H' : Hp}
    (hx : runFn E n a args (globHp gs P.globals.size) = some (x, H')) {w : World} (hw : GlobS P gs w) (hvs : ∀ ρ, VRs ρ args vs) :
    Calls P f vs.toArray w fun e w' => ∃ v ρ', e = .returned v ∧ VR ρ' x v ∧ Below w.heap.size w w' := by
  intro cs
  obtain ⟨e, w', fr, ⟨v, ρ', h1, h2, h3⟩, h4⟩ := runFn_calls (hE w.heap.size) hf hx hw.hr (hvs _) cs
  exact ⟨e, w', fr, ⟨v, ρ', h1, h2, h3.below⟩, h4⟩

/-! ### a closed call within a run: by its answer -/
mutual
def AV.flat : AV → Bool
  | .I _ _ | .B _ | .S _ _ | .p0 | .L0 | .M0 | .F0 | .E0 => true
  | .F _ a c => AV.flats a && AV.flats c
  | .E _ v => v.flat
  | .A l | .T l => AV.flats l
  | _ => false
def AV.flats : List AV → Bool
  | [] => true
  | a :: l => a.flat && AV.flats l
end
mutual
theorem VR.flat {ρ ρ' : Rn} : ∀ (a : AV) (v : Value), a.flat = true → VR ρ a v → VR ρ' a v
  | .I k n, v, _, e => by simpa only [VR] using e
  | .B b, v, _, e => by simpa only [VR] using e
  | .S n x, v, _, e => by simpa only [VR] using e
  | .p0, v, _, e => by simpa only [VR] using e
  | .L0, v, _, e => by simpa only [VR] using e
  | .M0, v, _, e => by simpa only [VR] using e
  | .F0, v, _, e => by simpa only [VR] using e
  | .E0, v, _, e => by simpa only [VR] using e
  | .F f a c, v, h, e => by
    simp only [AV.flat, Bool.and_eq_true] at h
    simp only [VR] at e ⊢; obtain ⟨as, cs, e1, e2, e3⟩ := e; exact ⟨as, cs, e1, VRs.flat a as h.1 e2, VRs.flat c cs h.2 e3⟩
  | .E t a, v, h, e => by
    simp only [AV.flat] at h
    simp only [VR] at e ⊢; obtain ⟨u, e1, e2⟩ := e; exact ⟨u, e1, VR.flat a u h e2⟩
  | .A l, v, h, e => by
    simp only [AV.flat] at h
    simp only [VR] at e ⊢; obtain ⟨vs, e1, e2⟩ := e; exact ⟨vs, e1, VRs.flat l vs h e2⟩
  | .T l, v, h, e => by
    simp only [AV.flat] at h
    simp only [VR] at e ⊢; obtain ⟨vs, e1, e2⟩ := e; exact ⟨vs, e1, VRs.flat l vs h e2⟩
  | .p .., _, h, _ => by simp [AV.flat] at h
  | .L .., _, h, _ => by simp [AV.flat] at h
  | .G .., _, h, _ => by simp [AV.flat] at h
  | .M .., _, h, _ => by simp [AV.flat] at h
  | .FY .., _, h, _ => by simp [AV.flat] at h
theorem VRs.flat {ρ ρ' : Rn} : ∀ (l : List AV) (vs : List Value), AV.flats l = true → VRs ρ l vs → VRs ρ' l vs
  | [], vs, _, e => by simpa only [VRs] using e
  | a :: l, vs, h, e => by
    simp only [AV.flats, Bool.and_eq_true] at h
    simp only [VRs] at e ⊢; obtain ⟨v, r, e1, e2, e3⟩ := e; exact ⟨v, r, e1, VR.flat a v h.1 e2, VRs.flat l r h.2 e3⟩
end

/-- are these tables in a heap, just so? -/
noncomputable def sameGlob (gs : List (Nat × AB)) (H : Hp) : Bool :=
  match gs with
  | [] => true
  | x :: l => (match H.t.get x.1 with | some b => eqB b x.2 | none => false) && sameGlob l H
theorem sameGlob_spec {H : Hp} : ∀ {gs : List (Nat × AB)}, sameGlob gs H = true → ∀ x ∈ gs, H.t.get x.1 = some x.2
  | [], _, x, hx => by cases hx
  | y :: l, h, x, hx => by
    simp only [sameGlob, Bool.and_eq_true] at h
    rcases List.mem_cons.1 hx with rfl | hx
    · have h1 := h.1
      split at h1
      · rename_i b hb
        rw [hb, eqB_sound h1]
      · cases h1
    · exact sameGlob_spec h.2 x hx

/-- the answer of a closed call, laid in a run -/
noncomputable def closedNat (gs : List (Nat × AB)) (n : Nat) (args : List AV) (x : AV) (as : List AV) (H : Hp) : Option (AV × Hp) :=
  bif eqVs as args && (sameGlob gs H && Nat.ble n H.next) then some (x, H) else none

theorem closedNat_sound {E : Env} (hE : ∀ base, EnvS P base E) {n : Nat} {f : FuncId} {a : AFn} (hf : cFn P f = some a) {gs : List (Nat × AB)} (hgs : ∀ x ∈ gs, x.1 < P.globals.size ∧ ∃ t cs, x.2 = .c t true cs ∧ AV.flats cs = true)
    {args : List AV} {x : AV} {H1 : Hp} (hx : runFn E n a args (globHp gs P.globals.size) = some (x, H1)) (hargs : AV.flats args = true) (hflat : x.flat = true) :
    NatS P base f (closedNat gs P.globals.size args x) := by
  intro as H y H' hy ρ w vs hr hvs
  unfold closedNat at hy
  cases hc : eqVs as args && (sameGlob gs H && Nat.ble P.globals.size H.next)
  · rw [hc] at hy; cases hy
  rw [hc] at hy
  simp only [cond_true, Option.some.injEq, Prod.mk.injEq] at hy
  obtain ⟨rfl, rfl⟩ := hy
  simp only [Bool.and_eq_true] at hc
  obtain ⟨c1, c2, c3⟩ := hc
  obtain rfl := eqVs_sound c1
  have hsame := sameGlob_spec c2
  let ρ0 : Rn := fun i => if i < P.globals.size then ρ i else none
  have hle : ∀ i z, ρ0 i = some z → ρ i = some z := fun i z h => by
    simp only [ρ0] at h; split at h
    · exact h
    · cases h
  have hget : ∀ {i : Nat} {a : AB}, (globHp gs P.globals.size).t.get i = some a → H.t.get i = some a ∧ a.ro = true ∧ i < P.globals.size := fun {i a} hg => by
    obtain ⟨z, hz, rfl, rfl⟩ := globTr_get hg
    obtain ⟨h1, t, cs, h2, _⟩ := hgs z hz
    exact ⟨hsame z hz, by rw [h2]; rfl, h1⟩
  have hr0 : HR P w.heap.size ρ0 (globHp gs P.globals.size) w := {
    blk := fun i b hg hd c N hb => by
      obtain ⟨h1, h2, _⟩ := hget hg
      obtain ⟨o, h3, h4, _⟩ := hr.blk i b h1 hd c N (hle _ _ hb)
      refine ⟨o, h3, ?_, fun e => by rw [h2] at e; cases e⟩
      obtain ⟨z, hz, rfl, rfl⟩ := globTr_get hg
      obtain ⟨_, t, cs, h5, h6⟩ := hgs z hz
      rw [h5] at h4 ⊢
      simp only [BR] at h4 ⊢
      obtain ⟨us, fz, e1, e2, e3, e4⟩ := h4
      refine ⟨us, fz, e1, e2, ?_, fun e => by cases e⟩
      exact VRs.flat _ _ h6 e3
    inj := fun i j a c b N M h1 h2 h3 h4 h5 h6 => hr.inj i j a c b N M (hget h1).1 (hget h2).1 h3 h4 (hle _ _ h5) (hle _ _ h6)
    fresh := fun i hi => by
      simp only [globHp] at hi
      simp only [ρ0]; rw [if_neg (by omega)]
    low := fun i a hg => (hget hg).2.2
    big := Nat.le_refl _
    rng := fun i b N hb => hr.rng i b N (hle _ _ hb)
    glob := fun g hg => by
      obtain ⟨N, h⟩ := hr.glob g hg
      exact ⟨N, by simp only [ρ0]; rw [if_pos hg]; exact h⟩ }
  obtain ⟨h1, h2⟩ := runFn_nat (hE w.heap.size) (n := n) hf as _ x H1 hx ρ0 w vs hr0 (VRs.flat _ _ hargs hvs)
  refine ⟨h1, fun cs => ?_⟩
  obtain ⟨v, w', ρ', fr, k1, k2, k3, k4, k5⟩ := h2 cs
  refine ⟨v, w', ρ, fr, k1, k2, k3, VR.flat _ _ hflat k4, ?_⟩
  exact {
    le := Rn.le_refl _
    new := fun _ _ e => .inl e
    next := Nat.le_refl _
    hr := {
      blk := fun i b hg hd c N hb => by
        obtain ⟨o, h3, h4, h5⟩ := hr.blk i b hg hd c N hb
        exact ⟨o, by rw [k5.low c (hr.rng i c N hb)]; exact h3, h4, h5⟩
      inj := hr.inj
      fresh := hr.fresh
      low := hr.low
      big := Nat.le_trans hr.big k5.size
      rng := fun i b N hb => Nat.lt_of_lt_of_le (hr.rng i b N hb) k5.size
      glob := hr.glob }
    os := k5.os
    tape := k5.tape
    output := k5.output
    size := k5.size
    low := fun b hb => k5.low b (Nat.lt_of_lt_of_le hb hr.big)
    frame := fun b hb _ => k5.low b hb
    old := fun i b N e => .inr ⟨i, N, e⟩ }

end Go.Fx
