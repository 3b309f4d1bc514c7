/- FxS: what an operation looks at. -/
import Derived.Test.YtaemikglijnihaaGreatDoorFxR
set_option linter.all false
namespace Go.Fx

def Same (tm tm' : Tr AV) (l : List Nat) : Prop := ∀ t ∈ l, tm.get t = tm'.get t
theorem Same.l {tm tm' : Tr AV} {a b : List Nat} (h : Same tm tm' (a ++ b)) : Same tm tm' a := fun t ht => h t (by simp [ht])
theorem Same.r {tm tm' : Tr AV} {a b : List Nat} (h : Same tm tm' (a ++ b)) : Same tm tm' b := fun t ht => h t (by simp [ht])

section
variable {tm tm' : Tr AV}
theorem ev_same {x : Opd} (h : Same tm tm' x.tmps) : ev tm x = ev tm' x := by
  cases x with
  | t n => exact h n (by simp [Opd.tmps])
  | k v => rfl
theorem evN_same {x : Opd} (h : Same tm tm' x.tmps) : evN tm x = evN tm' x := by unfold evN; rw [ev_same h]
theorem evs_same : ∀ {l : List Opd}, Same tm tm' (lTmps l) → evs tm l = evs tm' l
  | [], _ => rfl
  | x :: l, h => by
    simp only [lTmps] at h
    simp only [evs, ev_same h.l, evs_same h.r]
theorem evParts_same : ∀ {l : List (Nat × Nat × Opd)}, Same tm tm' (pTmps l) → evParts tm l = evParts tm' l
  | [], _ => rfl
  | (a, b, x) :: l, h => by
    simp only [pTmps] at h
    simp only [evParts, ev_same h.l, evParts_same h.r]
theorem optN_same {d : Nat} {x : Option Opd} (h : Same tm tm' (oTmps x)) : optN tm d x = optN tm' d x := by
  cases x with
  | none => rfl
  | some x => simp only [optN, evN_same (show Same tm tm' x.tmps from h)]
theorem doSlice_same {es : Nat} {a : AV} {lo hi mx : Option Opd} (h : Same tm tm' (oTmps lo ++ (oTmps hi ++ oTmps mx))) (H : Hp) : doSlice es a tm lo hi mx H = doSlice es a tm' lo hi mx H := by
  have h3 : ∀ m, mx = some m → evN tm m = evN tm' m := by
    intro m hm; subst hm; exact evN_same h.r.r
  have h1 := fun d => optN_same (d := d) h.l
  have h2 := fun d => optN_same (d := d) h.r.l
  have h4 := fun d => optN_same (d := d) h.r.r
  cases mx with
  | none => cases a <;> simp only [doSlice, h1, h2, h4]
  | some m => cases a <;> simp only [doSlice, h1, h2, h4, h3 m rfl]
theorem aexec_same {ao : AO} (h : Same tm tm' ao.tmps) (H : Hp) : aexec ao tm H = aexec ao tm' H := by
  cases ao <;> simp only [AO.tmps] at h <;> simp only [aexec]
  all_goals first
    | rfl
    | (simp only [ev_same h]; done)
    | (simp only [evs_same h]; done)
    | (simp only [evParts_same h]; done)
    | (simp only [ev_same h.l, ev_same h.r]; done)
    | (simp only [ev_same h.l, ev_same h.r.l, ev_same h.r.r]; done)
    | (simp only [ev_same h.l, evN_same h.r]; done)
    | (simp only [evN_same h.l, evN_same h.r]; done)
    | (simp only [evs_same h.l, evs_same h.r]; done)
    | (simp only [ev_same h.l, evs_same h.r]; done)
    | (simp only [ev_same h.l, optN_same h.r.l, optN_same h.r.r]; done)
    | (simp only [ev_same h.l, doSlice_same h.r]; done)

end
end Go.Fx
