/- THE LAW OF TRIMS (errata/erratalaw27.VmTrims): for every input the call returns true, and each argument reads behind the call as it read before.
   The conditions are those of the given card: package-level variables start as the program's text lays them (the card ties them). -/
import Derived.Test.YtlbckmllpciglaaDoorVmR
import Derived.Test.YtlbckmllpciglaaDoorVmW
set_option linter.unusedVariables false
set_option linter.unusedSimpArgs false
set_option linter.all false
namespace Go.Proofs.YtlbckmllpciglaaDoor
open Go Sy Go.RowKit Go.ChangeShapes Go.WideShapes Go.ChangeAt
set_option maxRecDepth 100000

theorem door_met (os : Os) (args : Array Value) : laidMetH Tryd.prog laidNames ((World.doorLaid Tryd.prog 4000 os).forCall (fun _ _ => 0) ⟨#[], args, []⟩).memory :=
  laidMetH_of_parts3 (fuel := 8) (laidMet_of_run' 8 (by kernel_rfl) (by kernel_rfl)) (by kernel_rfl) (by kernel_rfl)

theorem vmTrims_all (l : List D) (w : World) (ok : Nat → Prop) (vs : List Value) (h : RepVs C w ok [.struct 25, .slice 3, .slice 37] l vs) : R 5 l = some [.bool true] := by
  obtain ⟨d0, l, _, _, rfl, h0, h⟩ := RepVs.step h
  obtain ⟨d1, l, _, _, rfl, h1, h⟩ := RepVs.step h
  obtain ⟨d2, l, _, _, rfl, h2, h⟩ := RepVs.step h
  have := RepVs.done h
  subst this
  obtain ⟨c, rfl, _⟩ := prg_of h0
  obtain ⟨cols, rfl, hc⟩ := ints_of h1
  obtain ⟨a, rfl, ha, hra⟩ := deltas_of h2
  exact vmTrims_law c cols a hc ha hra

theorem trim_lifted (os : Os) (started : os.Started) (H : Type) (enc : TypeId × Value → H) :
    ReturnsInHanded {} Tryd.checked os 5 .any (fun w args => (Rows.vmTrimsSpec.pre enc Tryd.prog Tryd.f5 [] false w args ∧ laidMetH Tryd.prog laidNames w) ∧ sizedMet enc Tryd.prog Tryd.f5 (OpenSpec.ofChange Rows.vmTrimsSpec) false w args)
      (Rows.vmTrimsSpec.post enc Tryd.prog Tryd.f5 false true false false) := by
  refine returnsInHanded_of_change_and (C := Tryd.checked) (X := fun w _ => laidMetH Tryd.prog laidNames w) (fun _ _ _ hh h => h.of_heap hh) own started (by kernel_rfl) Tryd.func5
    (ChangeSpec.witness_shaped (enc := enc) (C := Tryd.checked) (os := os) (X := fun w _ => laidMetH Tryd.prog laidNames w) false (World.doorLaid Tryd.prog 4000 os) #[.agg #[.slice none 0 0, .slice none 0 0, .int .i64 0], .slice none 0 0, .slice none 0 0] 8 rfl (World.shaped_of_RefB (by kernel_rfl) (by kernel_rfl)) (by kernel_rfl) (by kernel_rfl) (by kernel_rfl) (door_met os _)) ?_
  intro W base args ds gs before hval0 hW _ hwt hL _
  exact law_calls (C := C) cok laidOut (R_sound 5) (ts := [25, 23, 26]) (tb := 4) (by rw [Tryd.params5]) (by kernel_rfl) (by kernel_rfl) (by kernel_rfl) clS_ok (by decide) (by kernel_rfl) (s := Rows.vmTrimsSpec) rfl
    (fun ds hds => by
      match ds, hds with
      | [d1, d2, d3], _ => rfl)
    hval0 hW hwt (gok_of hL) vmTrims_all

theorem vmTrims_row_holds : Rows.VmTrimsSaid :=
  OpenClaim.holds_of_wide 5 Tryd.f5 rfl rfl rfl rfl rfl rfl rfl ⟨rfl, rfl, rfl, rfl, rfl⟩ rfl rfl rfl rfl rfl (by kernel_rfl) Tryd.func5 (by kernel_rfl)
    (of_decide_eq_true (by kernel_rfl)) (by unfold Func.isWrapper; first | (rw [if_pos (by decide +kernel)]; kernel_rfl) | (rw [if_neg (by decide +kernel)]; exact ⟨rfl, rfl⟩))
    (fun os started H enc _ => trim_lifted os started H enc)

theorem vmTrims_holds : Rows.VmTrimsCardSaid :=
  Claim7.holds_tied_plain_at .later [] [.widerDeep] true (true, "ae21217c0f1a19455f70e557530e3554c17029f8ed32c149a5872d77b78e2c6e") false
    vmTrims_row_holds (fun _ h => by cases h) (by kernel_rfl) (fun _ h => by cases h) vmTrims_row_tie rfl ⟨rfl, rfl⟩ (by kernel_rfl) rfl
    (fun f fn hf hfn => by
      obtain rfl : f = 5 := Option.some.inj ((show Tryd.prog.funcNamed "errata/erratalaw27.VmTrims" = some 5 by kernel_rfl).symm.trans hf) |>.symm
      obtain rfl : fn = Tryd.f5 := (Option.some.inj (Tryd.func5.symm.trans hfn)).symm
      exact ⟨by kernel_rfl, fun j t ht => by
        rw [Tryd.params5] at ht
        have hm : t ∈ [25, 23, 26] := by simpa using Array.mem_of_getElem? ht
        have hall : ([25, 23, 26].all fun u => !Tryd.prog.wantsStandIn u) = true := by kernel_rfl
        exact (show Tryd.prog.wantsStandIn t = false by simpa using List.all_eq_true.1 hall t hm)⟩)
    (by kernel_rfl)
#print axioms vmTrims_holds
end Go.Proofs.YtlbckmllpciglaaDoor
