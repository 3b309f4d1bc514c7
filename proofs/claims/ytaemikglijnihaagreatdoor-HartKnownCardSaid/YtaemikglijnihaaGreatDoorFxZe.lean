/- FxZe: from a run of the abstract machine to the contract of a function. -/
import Derived.Test.YtaemikglijnihaaGreatDoorFxZd
set_option linter.all false
namespace Go.Fx
variable {P : Program} {base : Nat}

/-- a run of a function whose code is compiled -/
noncomputable def runFn (E : Env) (n : Nat) (a : AFn) (args : List AV) (H : Hp) : Option (AV × Hp) :=
  bif Nat.ble args.length a.ntmps then
    match act E n (setArgs args 0 .e) [.c a.body] none [] H with
    | some (.fn tm' ds, H') => match takeMarks ds H' with
      | some H'' => match ressOf tm' H'' a.results with
        | some l => some (valOf l, H'')
        | none => none
      | none => none
    | _ => none
  else none

theorem runFn_nat {E : Env} (hE : EnvS P base E) {n : Nat} {f : FuncId} {a : AFn} (hf : cFn P f = some a) : NatS P base f (runFn E n a) := by
  intro args H x H' hx ρ w vs hr hvs
  unfold runFn at hx
  cases hb : Nat.ble args.length a.ntmps
  · rw [hb] at hx; cases hx
  rw [hb] at hx
  simp only [cond_true] at hx
  split at hx
  · rename_i tm' ds H1 hact
    split at hx
    · rename_i H2 htk
      split at hx
      · rename_i l hres
        simp only [Option.some.injEq, Prod.mk.injEq] at hx
        obtain ⟨rfl, rfl⟩ := hx
        exact fn_sound (act_sound hE draw_sound n) hf (Nat.le_of_ble_eq_true hb) hact htk hres hr hvs
      · cases hx
    · cases hx
  · cases hx

theorem runFn_calls {E : Env} (hE : EnvS P base E) {n : Nat} {f : FuncId} {a : AFn} (hf : cFn P f = some a) {args : List AV} {H H' : Hp} {x : AV} (hx : runFn E n a args H = some (x, H')) {ρ : Rn} {w : World} {vs : List Value} (hr : HR P base ρ H w) (hvs : VRs ρ args vs) :
    Calls P f vs.toArray w fun e w' => ∃ v ρ', e = .returned v ∧ VR ρ' x v ∧ Onto P base ρ H w ρ' H' w' := by
  intro cs
  obtain ⟨_, h⟩ := runFn_nat hE (n := n) hf args H x H' hx ρ w vs hr hvs
  obtain ⟨v, w', ρ', fr, h1, h2, h3, h4, h5⟩ := h cs
  exact ⟨.returned v, w', fr, ⟨v, ρ', rfl, h4, h5⟩, h1, h2, h3⟩

end Go.Fx
