/- FhRun: the runs. -/
import Derived.Test.YtaemikglijnihaaGreatDoorFhTab
import Derived.Test.YtaemikglijnihaaGreatDoorFxZg
set_option linter.all false
namespace Go.Fx
open Go.Proofs
def rows : List AV := [.S 0 0, .S 0 0, .S 2 26988, .S 2 26977, .S 3 6911340, .S 2 27233, .S 3 6579297, .S 3 6513249, .S 3 6452595, .S 3 6513249, .S 3 7107949, .S 3 6513249, .S 3 7760228, .S 3 6513249, .S 3 7169394, .S 3 6513249, .S 3 6581857, .S 3 6513249, .S 2 29295, .S 3 6513249, .S 3 7499640, .S 3 6513249, .S 3 7104627, .S 3 6513249, .S 3 7497843, .S 3 6513249, .S 2 29804, .S 3 6513249, .S 3 7697516, .S 3 6513249, .S 2 29029, .S 3 6513249, .S 4 1768186977, .S 3 6906465, .S 2 25196, .S 3 6906465, .S 2 26732, .S 3 6906465, .S 2 30572, .S 3 6906465, .S 2 25203, .S 3 6906465, .S 2 26739, .S 3 6906465, .S 2 30579, .S 3 6906465, .S 2 25452, .S 3 6906465, .S 2 25459, .S 3 6906465, .S 3 7431522, .S 3 6906465, .S 3 6647394, .S 3 6906465, .S 3 7629922, .S 3 6906465, .S 3 6645602, .S 3 6906465, .S 3 7102826, .S 2 27233, .S 4 1919705450, .S 2 25185, .S 4 1702260589, .S 2 25185, .S 3 6516329, .S 3 6513249, .S 4 1768124009, .S 3 6906465, .S 4 1919181921, .S 3 6513249, .S 3 7628147, .S 3 6513249, .S 5 499883538533, .S 3 6513249, .S 4 1935961697, .S 3 6513249, .S 4 1818322291, .S 3 6513249, .S 4 1852141679, .S 3 6513249, .S 5 431315580258, .S 3 6513249, .S 5 491260308579, .S 2 25185, .S 5 491310571879, .S 2 25185, .S 5 435727458919, .S 2 25185, .S 4 1852140647, .S 2 25185, .S 5 470070685799, .S 2 25185, .S 5 435678704743, .S 2 25185, .S 4 1734440039, .S 2 25185, .S 5 500068610921, .S 2 25185, .S 2 25456, .S 2 27233, .S 4 1819042147, .S 2 25185, .S 3 7628146, .S 0 0, .S 5 465674789733, .S 1 105, .S 4 1885434484, .S 0 0]
def gs : List (Nat × AB) := [(0, .c 272 true rows)]
noncomputable def E0 : Env := ⟨fun f => ctab.get f, fun _ => none⟩
set_option maxRecDepth 1000000
noncomputable def isT (o : Option (AV × Hp)) : Bool :=
  match o with
  | some (.B true, _) => true
  | _ => false
theorem isT_spec {o : Option (AV × Hp)} (h : isT o = true) : ∃ H, o = some (.B true, H) := by
  unfold isT at h
  split at h
  · exact ⟨_, rfl⟩
  · cases h
theorem works_run : isT (runFn E0 100000 k13 [] (globHp gs 9)) = true := by kernel_rfl
theorem stacks_run : isT (runFn E0 100000 k14 [] (globHp gs 9)) = true := by kernel_rfl
theorem size9 : Tryz.prog.globals.size = 9 := by kernel_rfl
theorem E0_ok (base : Nat) : EnvS Tryz.prog base E0 where
  code f a h := tabTr_get tab_ok f a (by rw [← ctab_eq]; exact h)
  nat f g h := by cases h
theorem gs_ok : ∀ x ∈ gs, x.1 < Tryz.prog.globals.size ∧ ∃ t cs, x.2 = .c t true cs ∧ AV.flats cs = true := by
  intro x hx
  simp only [gs, List.mem_cons, List.mem_nil_iff, or_false] at hx
  subst hx
  exact ⟨by rw [size9]; decide, 272, rows, rfl, by kernel_rfl⟩
theorem works_nat (base : Nat) : NatS Tryz.prog base 13 (closedNat gs 9 [] (.B true)) := by
  obtain ⟨H, h⟩ := isT_spec works_run
  have := closedNat_sound (base := base) E0_ok (n := 100000) (f := 13) h13 (gs := gs) gs_ok (args := []) (x := .B true) (H1 := H) (by rw [size9]; exact h) rfl rfl
  rw [size9] at this
  exact this
theorem stacks_nat (base : Nat) : NatS Tryz.prog base 14 (closedNat gs 9 [] (.B true)) := by
  obtain ⟨H, h⟩ := isT_spec stacks_run
  have := closedNat_sound (base := base) E0_ok (n := 100000) (f := 14) h14 (gs := gs) gs_ok (args := []) (x := .B true) (H1 := H) (by rw [size9]; exact h) rfl rfl
  rw [size9] at this
  exact this
noncomputable def E1 : Env := ⟨fun f => ctab.get f, fun f => bif Nat.beq f 13 || Nat.beq f 14 then some (closedNat gs 9 [] (.B true)) else none⟩
theorem E1_ok (base : Nat) : EnvS Tryz.prog base E1 where
  code f a h := tabTr_get tab_ok f a (by rw [← ctab_eq]; exact h)
  nat f g h := by
    simp only [E1] at h
    cases h1 : Nat.beq f 13
    · cases h2 : Nat.beq f 14
      · rw [h1, h2] at h; cases h
      · rw [h1, h2] at h
        obtain rfl : f = 14 := Nat.eq_of_beq_eq_true h2
        cases h
        exact stacks_nat base
    · rw [h1] at h
      obtain rfl : f = 13 := Nat.eq_of_beq_eq_true h1
      cases h
      exact works_nat base
theorem hart_run : isT (runFn E1 100000 k3 [] (globHp gs 9)) = true := by kernel_rfl
theorem hart_calls {w : World} (hw : GlobS Tryz.prog gs w) : Calls Tryz.prog 3 #[] w fun e w' => e = .returned (.bool true) ∧ RowKit.Below w.heap.size w w' := by
  obtain ⟨H, h⟩ := isT_spec hart_run
  refine (closed_calls E1_ok (n := 100000) (f := 3) h3 (gs := gs) (args := []) (vs := []) (by rw [size9]; exact h) hw (fun _ => VRs.nil)).mono fun e w' hh => ?_
  obtain ⟨v, ρ', h1, h2, h3⟩ := hh
  simp only [VR] at h2
  subst h2
  exact ⟨h1, h3⟩
end Go.Fx
