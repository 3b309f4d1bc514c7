/- FxW: a region whose order is drawn: the states on the way. -/
import Derived.Test.YtaemikglijnihaaGreatDoorFxV
set_option linter.all false
namespace Go.Fx
variable {P : Program} {base : Nat}

/-! ### some slots only -/
noncomputable def restr (tm : Tr AV) : List Nat → Tr AV
  | [] => .e
  | t :: l => match tm.get t with
    | some a => (restr tm l).set a t
    | none => restr tm l
theorem get_e {α : Type} (i : Nat) : (Tr.e : Tr α).get i = none := by cases i <;> rfl
theorem restr_get (tm : Tr AV) : ∀ (l : List Nat) (t : Nat), (restr tm l).get t = if t ∈ l then tm.get t else none
  | [], t => by simp [restr, get_e]
  | x :: l, t => by
    simp only [restr]
    have ih := restr_get tm l t
    split
    · rename_i a ha
      rw [Tr.get_set]
      by_cases h : t = x
      · subst h; simp [ha]
      · rw [if_neg h, ih]; simp [h]
    · rename_i ha
      rw [ih]
      by_cases h : t = x
      · subst h; simp [ha]
      · simp [h]
theorem restr_same (tm : Tr AV) (l : List Nat) : Same tm (restr tm l) l := fun t ht => by rw [restr_get, if_pos ht]

theorem AOper.tmps_op (o : AOper) {t : Nat} (h : t ∈ o.op.tmps) : t ∈ o.tmps := by
  unfold AOper.tmps; split
  · exact List.mem_cons_of_mem _ h
  · exact h
theorem Same.op {tm tm' : Tr AV} {o : AOper} (h : Same tm tm' o.tmps) : Same tm tm' o.op.tmps := fun t ht => h t (o.tmps_op ht)
theorem wanted_same {tm tm' : Tr AV} {o : AOper} (h : Same tm tm' o.tmps) : wantedA tm o.guard = wantedA tm' o.guard := by
  cases hg : o.guard with
  | none => rfl
  | some p =>
    obtain ⟨d, want⟩ := p
    have := h d (by unfold AOper.tmps; rw [hg]; simp)
    simp only [wantedA, this]

theorem valOper_same {call : Res → Hp → Option (AV × Hp)} {tm tm' : Tr AV} {o : AOper} (h : Same tm tm' o.tmps) (H : Hp) : valOper call o tm H = valOper call o tm' H := by
  unfold valOper; rw [wanted_same h, aexec_same h.op]

/-! ### one step, with the slots that the operation looks at -/
theorem val_sound {call : Res → Hp → Option (AV × Hp)} (hcall : CallS P base call) {ρ : Rn} {nt : Nat} {tm : Tr AV} {H H' : Hp} {w : World} {o : Oper} {ao : AOper} {ops : Array Oper} (hc : cOper P nt ops o = some ao) {a : AV}
    (hx : valOper call ao tm H = some (a, H')) {A : Act} (hsz : A.tmps.size = nt) (ht : ∀ t ∈ ao.tmps, ∀ x, tm.get t = some x → ∃ v, A.tmps[t]? = some v ∧ VR ρ x v) (hr : HR P base ρ H w) {b : Frame} {i : Nat} {rest : List Nat} {k : List Item} (hi : ops[i]? = some o) (cs : List Frame) :
    ∃ v w' ρ', Steps P (lone (b.atR A (.inRegion ops (i :: rest) :: k)) cs w) (lone (b.atR (A.put o.dst v) (.inRegion ops rest :: k)) cs w') ∧ VR ρ' a v ∧ Onto P base ρ H w ρ' H' w' := by
  have hT : TR ρ nt (restr tm ao.tmps) A.tmps := by
    refine ⟨hsz, fun t x hx => ?_⟩
    rw [restr_get] at hx
    split at hx
    · rename_i hm; exact ht t hm x hx
    · cases hx
  rw [valOper_same (restr_same tm ao.tmps)] at hx
  obtain ⟨hdst, hop, hlt⟩ := cOper_spec hc
  have he : EvR P ρ (restr tm ao.tmps) A.eval := evR_of hr hT A.defers
  unfold valOper at hx
  split at hx
  · rename_i hw
    have hwant := wantedA_sound hT hc hw
    cases hco : cOp P o with
    | none => rw [hop, hco] at hx; simp [aexec] at hx
    | some ao' =>
      have hao : ao.op = ao' := by rw [hop, hco]; rfl
      rw [hao] at hx
      exact want_sound hcall hco hx he hr hi hwant cs
  · rename_i hw
    have hwant := wantedA_sound hT hc hw
    simp only [Option.some.injEq, Prod.mk.injEq] at hx
    obtain ⟨rfl, rfl⟩ := hx
    have hs := stepR_op_skip (P := P) (b := b) (a := A) (k := k) (cs := cs) (w := w) (ops := ops) (i := i) (rest := rest) (by simp [hi, hwant])
    simp only [hi, Option.bind_some] at hs
    exact ⟨undef, w, ρ, .one hs, by simp only [VR]; exact ⟨[], rfl, VRs.nil⟩, Onto.refl hr⟩
  · cases hx

/-! ### what is known of a region, whatever it computes -/
structure SC (ops : Array Oper) (al : List AOper) (anc : Nat → Nat) : Prop where
  cl : ∀ i j, i < ops.size → hasB (anc i) j = true → ∃ e, AnyE ops i e ∧ e < i ∧ (e = j ∨ hasB (anc e) j = true)
  self : ∀ (i : Nat) (a : AOper), al[i]? = some a → a.fl = true → ∃ d, a.dst = some d ∧ d ∉ a.tmps
  s1 : ∀ (i : Nat) (a : AOper) (j : Nat) (b : AOper) (d : Nat), al[i]? = some a → al[j]? = some b → i ≠ j → b.fl = true → b.dst = some d → (d ∈ a.tmps → hasB (anc i) j = true) ∧ a.dst ≠ some d
  s3 : ∀ (i : Nat) (a : AOper) (j : Nat) (b : AOper) (t : Nat), al[i]? = some a → al[j]? = some b → i ≠ j → a.fl = true → b.fl = false → b.dst = some t → t ∈ a.tmps → hasB (anc i) j = true ∨ hasB (anc j) i = true

theorem anc_sub {ops : Array Oper} {al : List AOper} {anc : Nat → Nat} (hs : SC ops al anc) {D : Nat → Prop} (hcl : ∀ i, D i → ∀ j, AnyE ops i j → D j) : ∀ n i, i < n → i < ops.size → (∀ j, AnyE ops i j → D j) → ∀ j, hasB (anc i) j = true → D j
  | 0, i, h, _, _, _, _ => by omega
  | n + 1, i, h, hi, he, j, hj => by
    obtain ⟨e, h1, h2, h3⟩ := hs.cl i j hi hj
    rcases h3 with rfl | h3
    · exact he _ h1
    · exact anc_sub hs hcl n e (by omega) (by omega) (hcl e (he e h1)) j h3

/-- a float that is taken but not done: it gives the same again -/
def VF (n0 id : Nat) (b : AOper) (ρ : Rn) (tm : Tr AV) (H : Hp) : Prop :=
  ∃ d, b.dst = some d ∧
    ((wantedA tm b.guard = some false ∧ tm.get d = some (.T [])) ∨
     (wantedA tm b.guard = some true ∧ (b.op.pure = true ∨ b.op.load = true) ∧ ∃ a, aexec b.op tm H = some (.v a H) ∧ tm.get d = some a) ∨
     (wantedA tm b.guard = some true ∧ b.op.alloc = true ∧ ∃ a blk, aexec b.op tm H = some (.v (withId a H.next) (H.new blk)) ∧ tm.get d = some (withId a id) ∧ H.t.get id = some blk ∧ ρ id = none ∧ n0 ≤ id))

theorem alloc_shape {ao : AO} (hal : ao.alloc = true) {tm : Tr AV} {H H' : Hp} {a : AV} (hx : aexec ao tm H = some (.v a H')) : ∃ blk, H' = H.new blk ∧ a = withId a H.next ∧ ∀ H2, aexec ao tm H2 = some (.v (withId a H2.next) (H2.new blk)) := by
  cases ao <;> simp only [AO.alloc, Bool.false_eq_true] at hal
  · simp only [aexec] at hx
    obtain ⟨rfl, rfl⟩ := ok_inj hx
    exact ⟨_, rfl, rfl, fun H2 => rfl⟩
  · rename_i t bytes z x y
    simp only [aexec] at hx
    split at hx
    · rename_i l c hl hc
      cases hle : (Nat.ble l c && (Nat.ble (Nat.mul bytes c) 281474976710656 && Nat.ble c 9223372036854775807))
      · rw [hle] at hx; cases hx
      rw [hle] at hx
      simp only [cond_true] at hx
      cases hu8 : isU8 z
      · rw [hu8] at hx
        simp only [cond_false] at hx
        obtain ⟨rfl, rfl⟩ := ok_inj hx
        refine ⟨_, rfl, rfl, fun H2 => ?_⟩
        simp only [aexec, hl, hc, hle, hu8, cond_true, cond_false]; rfl
      · rw [hu8] at hx
        simp only [cond_true] at hx
        obtain ⟨rfl, rfl⟩ := ok_inj hx
        refine ⟨_, rfl, rfl, fun H2 => ?_⟩
        simp only [aexec, hl, hc, hle, hu8, cond_true]; rfl
    · cases hx

theorem VF.move {n0 id : Nat} {b : AOper} {ρ : Rn} {tm tm' : Tr AV} {H H' : Hp} (h : VF n0 id b ρ tm H) (hs : Same tm tm' b.tmps) (hd : ∀ d, b.dst = some d → tm'.get d = tm.get d) (hn : H.t.get H.next = none) (hH : H' = H ∨ ∃ blk, H' = H.new blk) :
    VF n0 id b ρ tm' H' := by
  obtain ⟨d, h1, h2⟩ := h
  refine ⟨d, h1, ?_⟩
  rw [← wanted_same hs, hd d h1]
  rcases h2 with h2 | ⟨h2, h3, a, h4, h5⟩ | ⟨h2, h3, a, blk, h4, h5, h6, h7, h8⟩
  · exact .inl h2
  · refine .inr (.inl ⟨h2, h3, a, ?_, h5⟩)
    rw [← aexec_same hs.op]
    rcases hH with rfl | ⟨k, rfl⟩
    · exact h4
    · rcases h3 with h3 | h3
      · exact (pure_frame h3 h4).2 _
      · exact load_new h3 hn k h4
  · obtain ⟨blk', g1, g2, g3⟩ := alloc_shape h3 h4
    have hb : blk' = blk := by
      have e : (H.new blk').t.get H.next = (H.new blk).t.get H.next := by rw [← g1]
      rw [get_new, get_new, if_pos rfl, if_pos rfl] at e
      exact (Option.some.inj e)
    subst hb
    refine .inr (.inr ⟨h2, h3, withId a H.next, blk', ?_, ?_, ?_, h7, h8⟩)
    · rw [← aexec_same hs.op]; exact g3 H'
    · rw [h5]; cases a <;> rfl
    · rcases hH with rfl | ⟨k, rfl⟩
      · exact h6
      · rw [new_get hn k ⟨_, h6⟩]; exact h6

/-- the states on the way through a region whose order is drawn -/
structure St (P : Program) (base : Nat) (ρ0 : Rn) (H0 : Hp) (w0 : World) (nt : Nat) (ops : Array Oper) (al : List AOper) (anc : Nat → Nat) (D : Nat → Prop) (T : Nat) (g : Nat → Nat) (ρ : Rn) (tm : Tr AV) (H : Hp) (w : World) (A : Act) : Prop where
  on : Onto P base ρ0 H0 w0 ρ H w
  sz : A.tmps.size = nt
  tr : ∀ t a, tm.get t = some a → (∀ (i : Nat) (b : AOper), hasB T i = true → ¬ D i → al[i]? = some b → b.fl = true → b.dst ≠ some t) → ∃ v, A.tmps[t]? = some v ∧ VR ρ a v
  v : ∀ (i : Nat) (b : AOper), hasB T i = true → ¬ D i → al[i]? = some b → b.fl = true → VF H0.next (g i) b ρ tm H
  inj : ∀ (i j : Nat) (b c : AOper), hasB T i = true → ¬ D i → al[i]? = some b → b.fl = true → b.op.alloc = true → wantedA tm b.guard = some true → hasB T j = true → ¬ D j → al[j]? = some c → c.fl = true → c.op.alloc = true →
    wantedA tm c.guard = some true → i ≠ j → g i ≠ g j
  dcl : ∀ i, D i → ∀ j, AnyE ops i j → D j
  sub : ∀ i, D i → hasB T i = true
  tcl : ∀ i, hasB T i = true → ∀ j, hasB (anc i) j = true → hasB T j = true

theorem AO.not_both {a : AO} (h : a.alloc = true) : a.pure = false ∧ a.load = false := by cases a <;> simp [AO.alloc] at h <;> exact ⟨rfl, rfl⟩

theorem fl_class {nt : Nat} {ops : Array Oper} {o : Oper} {ao : AOper} (hc : cOper P nt ops o = some ao) (h : ao.fl = true) : ao.op.pure = true ∨ ao.op.load = true ∨ ao.op.alloc = true := by
  have key : ao.fl = floats o ao.op := by
    unfold cOper at hc
    split at hc
    · cases hc
    · split at hc
      · simp only [Option.some.injEq] at hc; subst hc; rfl
      · split at hc
        · simp only [Option.some.injEq] at hc; subst hc; rfl
        · cases hc
  rw [key] at h
  simp only [floats, Bool.and_eq_true, Bool.or_eq_true] at h
  exact h.2.1

end Go.Fx
