/- THE LAW OF TELLS (errata/erratalaw27.VmTells): for every input the call returns true, and each argument reads behind the call as it read before.
   The conditions are those of the given card: package-level variables start as the program's text lays them (the card ties them). -/
import Derived.Test.YtlbckmllpciglaaDoorVmR
import Derived.Test.YtlbckmllpciglaaDoorVmXh
set_option linter.unusedVariables false
set_option linter.unusedSimpArgs false
set_option linter.all false
namespace Go.Proofs.YtlbckmllpciglaaDoor
open Go Sy Go.RowKit Go.ChangeShapes Go.WideShapes Go.ChangeAt
set_option maxRecDepth 100000

theorem door_met (os : Os) (args : Array Value) : laidMetH Tryd.prog laidNames ((World.doorLaid Tryd.prog 4000 os).forCall (fun _ _ => 0) ⟨#[], args, []⟩).memory :=
  laidMetH_of_parts3 (fuel := 8) (laidMet_of_run' 8 (by kernel_rfl) (by kernel_rfl)) (by kernel_rfl) (by kernel_rfl)

theorem vmTells_all (l : List D) (w : World) (ok : Nat → Prop) (vs : List Value) (h : RepVs C w ok [.struct 25, .struct 25, .slice 3, .slice 37, .int .i64] l vs) : R 4 l = some [.bool true] := by
  obtain ⟨d0, l, _, _, rfl, h0, h⟩ := RepVs.step h
  obtain ⟨d1, l, _, _, rfl, h1, h⟩ := RepVs.step h
  obtain ⟨d2, l, _, _, rfl, h2, h⟩ := RepVs.step h
  obtain ⟨d3, l, _, _, rfl, h3, h⟩ := RepVs.step h
  obtain ⟨d4, l, _, _, rfl, h4, h⟩ := RepVs.step h
  have := RepVs.done h
  subst this
  obtain ⟨c, rfl, _⟩ := prg_of h0
  obtain ⟨d, rfl, _⟩ := prg_of h1
  obtain ⟨cols, rfl, _⟩ := ints_of h2
  obtain ⟨a, rfl, _, hra⟩ := deltas_of h3
  obtain ⟨n, rfl, _⟩ := int_shape h4
  exact vmTells_law c d cols a n hra

theorem tells_lifted (os : Os) (started : os.Started) (H : Type) (enc : TypeId × Value → H) :
    ReturnsInHanded {} Tryd.checked os 4 .any (fun w args => (Rows.vmTellsSpec.pre enc Tryd.prog Tryd.f4 [] false w args ∧ laidMetH Tryd.prog laidNames w) ∧ sizedMet enc Tryd.prog Tryd.f4 (OpenSpec.ofChange Rows.vmTellsSpec) false w args)
      (Rows.vmTellsSpec.post enc Tryd.prog Tryd.f4 false true false false) := by
  refine returnsInHanded_of_change_and (C := Tryd.checked) (X := fun w _ => laidMetH Tryd.prog laidNames w) (fun _ _ _ hh h => h.of_heap hh) own started (by kernel_rfl) Tryd.func4
    (ChangeSpec.witness_shaped (enc := enc) (C := Tryd.checked) (os := os) (X := fun w _ => laidMetH Tryd.prog laidNames w) false (World.doorLaid Tryd.prog 4000 os) #[.agg #[.slice none 0 0, .slice none 0 0, .int .i64 0], .agg #[.slice none 0 0, .slice none 0 0, .int .i64 0], .slice none 0 0, .slice none 0 0, .int .i64 0] 8 rfl (World.shaped_of_RefB (by kernel_rfl) (by kernel_rfl)) (by kernel_rfl) (by kernel_rfl) (by kernel_rfl) (door_met os _)) ?_
  intro W base args ds gs before hval0 hW _ hwt hL _
  exact law_calls (C := C) cok laidOut (R_sound 4) (ts := [25, 25, 23, 26, 3]) (tb := 4) (by rw [Tryd.params4]) (by kernel_rfl) (by kernel_rfl) (by kernel_rfl) clS_ok (by decide) (by kernel_rfl) (s := Rows.vmTellsSpec) rfl
    (fun ds hds => by
      match ds, hds with
      | [d1, d2, d3, d4, d5], _ => rfl)
    hval0 hW hwt (gok_of hL) vmTells_all

theorem vmTells_row_holds : Rows.VmTellsSaid :=
  OpenClaim.holds_of_wide 4 Tryd.f4 rfl rfl rfl rfl rfl rfl rfl ⟨rfl, rfl, rfl, rfl, rfl⟩ rfl rfl rfl rfl rfl (by kernel_rfl) Tryd.func4 (by kernel_rfl)
    (of_decide_eq_true (by kernel_rfl)) (by unfold Func.isWrapper; first | (rw [if_pos (by decide +kernel)]; kernel_rfl) | (rw [if_neg (by decide +kernel)]; exact ⟨rfl, rfl⟩))
    (fun os started H enc _ => tells_lifted os started H enc)

theorem vmTells_holds : Rows.VmTellsCardSaid :=
  Claim7.holds_tied_plain_at .later [] [.widerDeep] true (true, "ae21217c0f1a19455f70e557530e3554c17029f8ed32c149a5872d77b78e2c6e") false
    vmTells_row_holds (fun _ h => by cases h) (by kernel_rfl) (fun _ h => by cases h) vmTells_row_tie rfl ⟨rfl, rfl⟩ (by kernel_rfl) rfl
    (fun f fn hf hfn => by
      obtain rfl : f = 4 := Option.some.inj ((show Tryd.prog.funcNamed "errata/erratalaw27.VmTells" = some 4 by kernel_rfl).symm.trans hf) |>.symm
      obtain rfl : fn = Tryd.f4 := (Option.some.inj (Tryd.func4.symm.trans hfn)).symm
      exact ⟨by kernel_rfl, fun j t ht => by
        rw [Tryd.params4] at ht
        have hm : t ∈ [25, 25, 23, 26, 3] := by simpa using Array.mem_of_getElem? ht
        have hall : ([25, 25, 23, 26, 3].all fun u => !Tryd.prog.wantsStandIn u) = true := by kernel_rfl
        exact (show Tryd.prog.wantsStandIn t = false by simpa using List.all_eq_true.1 hall t hm)⟩)
    (by kernel_rfl)
#print axioms vmTells_holds
end Go.Proofs.YtlbckmllpciglaaDoor
