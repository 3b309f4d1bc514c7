/- FxZd: every region whose order is drawn; every activation. -/
import Derived.Test.YtaemikglijnihaaGreatDoorFxZc
set_option linter.all false
namespace Go.Fx
variable {P : Program} {base : Nat}

theorem comp_of {nt : Nat} {ops : Array Oper} : ∀ (l : List Oper) {al : List AOper}, cOpers P nt ops l = some al → al.length = l.length ∧ ∀ (i : Nat) (b : AOper), al[i]? = some b → ∃ o, l[i]? = some o ∧ cOper P nt ops o = some b
  | [], al, h => by
    simp only [cOpers, Option.some.injEq] at h; subst h
    exact ⟨rfl, fun i b h => by simp at h⟩
  | o :: l, al, h => by
    simp only [cOpers] at h
    split at h
    · rename_i a ha
      split at h
      · rename_i r hr
        simp only [Option.some.injEq] at h; subst h
        obtain ⟨h1, h2⟩ := comp_of l hr
        refine ⟨by simp [h1], fun i b hi => ?_⟩
        cases i with
        | zero => simp at hi; subst hi; exact ⟨o, rfl, ha⟩
        | succ i => simpa using h2 i b (by simpa using hi)
      · cases h
    · cases h

theorem cond_some {α : Type} {b : Bool} {x : Option α} {p : α} (h : (bif b then x else none) = some p) : b = true ∧ x = some p := by
  cases b
  · cases h
  · exact ⟨rfl, h⟩

theorem draw_sound : DrawS P base := by
  intro call hcall nt id ops al p hc tm tm' H H' hx ρ w A ht hr b k cs
  simp only [cCode] at hc
  split at hc
  · rename_i l hl
    split at hc
    · rename_i p' hp
      simp only [Option.some.injEq, AC.draw.injEq] at hc
      obtain ⟨rfl, rfl⟩ := hc
      obtain ⟨hlen, hcm⟩ := comp_of ops.toList hl
      have hlen : l.length = ops.size := by simpa using hlen
      have cm : Comp P nt ops l := fun i b h => by simpa using hcm i b h
      unfold planOf at hp
      obtain ⟨hok, hp⟩ := cond_some hp
      · simp only [Bool.and_eq_true] at hok
        obtain ⟨m1, m2, m3, m4, m5⟩ := hok
        have sc : SC ops l (ancOf (ancTr ops.toList 0 .e)) := sc_of m3 (by simpa using m4)
        have hlin := schedule_lin (ops := ops) (by rw [m1, Bool.true_and]; exact m2) (P.follows .mixedOrders) (w.tape w.drawn (.order b.fn id))
        have hon := Onto.drew hr (w.drawn + 1)
        have s0 : St P base ρ H w nt ops l (ancOf (ancTr ops.toList 0 .e)) (fun _ => False) 0 (fun _ => 0) ρ tm H { w with drawn := w.drawn + 1 } A :=
          ⟨hon, ht.1, fun t a h _ => ht.2 t a h, fun i b h => by simp [hasB] at h, fun i j b c h => by simp [hasB] at h, fun i h => h.elim, fun i h => h.elim, fun i h => by simp [hasB] at h⟩
        obtain ⟨r', T', g', seen', p2, tm2, H2, s2, ho2, hp2, hd2, hs2, hE2, hr2⟩ := takes2 (call := call) sc cm _ _ _ _ _ _ _ s0 m5 hp hx (fun j c h => by simp [hasB] at h) (fun j c h => by simp [hasB] at h)
        obtain ⟨tmps', w', ρ', k1, k2, k3⟩ := lockstep hcall sc cm hlen hlin r' T' g' seen' p2 tm2 H2 ρ _ A _ s2 ho2 hp2 hd2 hs2 hE2 hr2 (fr := b) (k := k) (cs := cs)
        exact ⟨tmps', w', ρ', .head stepR_region_draw k1, k2, k3⟩
    · cases hc
  · cases hc

end Go.Fx
