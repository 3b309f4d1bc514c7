/- HartKnown: for every world in which the program's tables lie as its text lays them, the closed statement returns true. Proved by a run of an abstract machine in the kernel, whose soundness over the model is proved (the Fx texts). -/
import Derived.Test.YtaemikglijnihaaGreatDoorCards
import Derived.Test.YtaemikglijnihaaGreatDoorTie
import Derived.Test.YtaemikglijnihaaGreatDoorFhRun
import Derived.Test.YtaemikglijnihaaGreatDoorFxZh
import Derived.WalkKit
import Derived.ProofKit
import Derived.OpenShut
import Derived.Lay
import Derived.PinnedBridge
import Derived.SevenTiedAt
set_option linter.all false
namespace Go.Proofs.YtaemikglijnihaaGreatDoor
open Go Go.ChangeShapes Go.WideShapes Go.ChangeAt Go.RowKit Go.Fx

theorem own : ownKnob Tryz.prog.godebug = none := by kernel_rfl
theorem rows_name : Tryz.prog.globalNamed "fallow/isa.rows" = some 0 := by kernel_rfl
theorem rows_type : (Tryz.prog.globals[0]?).map (·.type) = some 272 := by kernel_rfl

/-- the program's tables, as the abstract machine has them -/
theorem globs_of {W : World} (hs : W.ShapedOpen Tryz.prog) (hL : laidMetH Tryz.prog Rows.hartKnownRow.laid W) : GlobS Tryz.prog gs W := by
  have hrow : (((begin Tryz.prog (fun _ _ => 0) default).world.heap[0]?).bind Obj.row?).map (·.2) = some 272 := by kernel_rfl
  obtain ⟨⟨zero, t⟩, hz, ht⟩ := Option.map_eq_some_iff.1 hrow
  simp only at ht
  subst ht
  obtain ⟨cs, h1, _⟩ := hs.1 0 zero _ (by rw [size9]; decide) hz
  have hall : ∀ g, g < Tryz.prog.globals.size → (((begin Tryz.prog (fun _ _ => 0) default).world.heap[g]?).bind Obj.row?).isSome = true := by
    intro g hg
    rw [size9] at hg
    have : ((List.range 9).all fun g => (((begin Tryz.prog (fun _ _ => 0) default).world.heap[g]?).bind Obj.row?).isSome) = true := by kernel_rfl
    exact List.all_eq_true.1 this g (List.mem_range.2 hg)
  refine ⟨fun g hg => ?_, fun x hx => ?_⟩
  · obtain ⟨vs, t, h⟩ := shaped_all hs hall g hg
    exact (Array.getElem?_eq_some_iff.1 h).1
  · simp only [gs, List.mem_cons, List.mem_nil_iff, or_false] at hx
    subst hx
    refine ⟨by rw [size9]; decide, 272, rows, cs, (0, 0), rfl, h1, ?_⟩
    rw [MakeChecks.laidMetH_plain _ _ _ (by kernel_rfl)] at hL
    exact glob_of_reads 8 rows_name rows_type (by kernel_rfl) (by kernel_rfl) (Lib.laidMet.reads hL (n := "fallow/isa.rows") (d := Rows.laid_fallow_isa_rows) (by simp [Rows.hartKnownRow])) h1

set_option maxRecDepth 100000 in
theorem hartKnown_lifted (os : Os) (started : os.Started) (H : Type) (enc : TypeId × Value → H) :
    ReturnsInHanded {} Tryz.checked os 3 .any (fun w args => (Rows.hartKnownSpec.pre enc Tryz.prog Tryz.f3 [] false w args ∧ laidMetH Tryz.prog Rows.hartKnownRow.laid w) ∧ sizedMet enc Tryz.prog Tryz.f3 (OpenSpec.ofChange Rows.hartKnownSpec) false w args)
      (Rows.hartKnownSpec.post enc Tryz.prog Tryz.f3 false true false false) := by
  refine returns_shaped (C := Tryz.checked) (X := fun w _ => laidMetH Tryz.prog Rows.hartKnownRow.laid w) (fun _ _ _ hh h => h.of_heap hh) own started (by kernel_rfl) Tryz.func3
    (ChangeSpec.witness_shaped (enc := enc) (C := Tryz.checked) (os := os) (X := fun w _ => laidMetH Tryz.prog Rows.hartKnownRow.laid w) false (World.laidAll Tryz.prog os Rows.hartKnownRow.laid) #[] 8 (World.laidAll_os _ _ _)
      (World.shaped_of_ZipB (by kernel_rfl) (by kernel_rfl)) (by kernel_rfl) (by kernel_rfl) (by kernel_rfl)
      (by rw [MakeChecks.laidMetH_plain _ _ _ (by kernel_rfl)]; exact laidMet_laidAll _ (by kernel_rfl) (by kernel_rfl))) ?_
  intro W base args ds gs before hs hval0 hW _ _ hL _
  have hW' := hW
  obtain ⟨p, q, hA0, hV, rfl, hfz, hnd⟩ := hW
  have hA : DataW.TrodAll enc Tryz.prog W 0 (fun _ => true) true Tryz.f3.params.toList args.toList ds p := hA0
  rw [Tryz.params3] at hA
  obtain ⟨rfl, rfl, rfl⟩ := trodAll_none hA
  obtain ⟨rfl, rfl⟩ := trodVars_none hV
  clear hA0 hval0
  refine (hart_calls (globs_of hs hL)).mono fun e W' ⟨he, hb⟩ => ?_
  subst he
  exact ⟨_, rfl, post_below (pa := []) (pv := []) hW' (fun _ _ _ => trodAll_mk1 (shut_bool Tryz.underlying4 _)) (fun sp _ => rfl) (fun _ _ => rfl) rfl hb (ok_one (by kernel_rfl) rfl (okWide_bool_mk Tryz.underlying4 _))⟩

theorem hartKnown_holds : Rows.HartKnownSaid :=
  OpenClaim.holds_of_wide 3 Tryz.f3 rfl rfl rfl rfl rfl rfl rfl ⟨rfl, rfl, rfl, rfl, rfl⟩ rfl rfl rfl rfl rfl (by kernel_rfl) Tryz.func3 (by kernel_rfl)
    (of_decide_eq_true (by kernel_rfl)) (by unfold Func.isWrapper; first | (rw [if_pos (by decide +kernel)]; kernel_rfl) | (rw [if_neg (by decide +kernel)]; exact ⟨rfl, rfl⟩))
    (fun os started H enc _ => hartKnown_lifted os started H enc)

theorem hartKnown_card : Rows.HartKnownCardSaid :=
  Claim7.holds_tied_plain_at .later [] [.data, .data, .data, .data, .sentinel, .sentinel, .data, .pinned] true (true, "81b80d95ba8eeb5c77312f185ca786df9a8270ce955ea834c95d230acdfc5365") true
    hartKnown_holds (fun _ h => by cases h) (by kernel_rfl) (fun _ h => by cases h) hartKnown_row_tie rfl ⟨rfl, rfl⟩ (by kernel_rfl) rfl
    (fun f fn hf hfn => by
      obtain rfl : f = 3 := Option.some.inj ((show Tryz.prog.funcNamed "fallow/fallowlaw28.HartKnown" = some 3 by kernel_rfl).symm.trans hf) |>.symm
      obtain rfl : fn = Tryz.f3 := (Option.some.inj (Tryz.func3.symm.trans hfn)).symm
      exact ⟨by kernel_rfl, fun j t ht => by
        rw [Tryz.params3] at ht
        simp at ht⟩)
    (by kernel_rfl)
#print axioms hartKnown_card
end Go.Proofs.YtaemikglijnihaaGreatDoor
