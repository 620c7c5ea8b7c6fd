/-
  DERIVED. GIVEN WITH THE SEED: THE CARDS: each row of YtlbckmllpciglaaDoorRows.lean that lists a variable, with what it lists TIED to the program's text (the seventh form; the later family's looks); each row that meets fmt, with fmt's text TOLD by the authors' own Lean function (tested against real Go, not proved from fmt's source: count such statements apart). THE CARD IS WHAT COUNTS. Prove the row's statement (the work); the ties are given (YtlbckmllpciglaaDoorTie.lean); close each card by the builder's one call (the guide's Derived/Test/ToyasCard.lean, 'card_holds'). Laid BY PROGRAM, IN A SANDBOX (cutbox-door.mjs). By AI agents, Wed Nov 11 2026. No macro, syntax, notation, axiom, sorry.
-/
import Derived.Test.YtlbckmllpciglaaDoorRows
import GoSem.ClaimSeven
namespace Go.Proofs.YtlbckmllpciglaaDoor
namespace Rows

/-- THE TIED CARD OF 'erratalaw27.VmBatches'. -/
def vmBatchesCard : Claim7 := { stood := { row := vmBatchesRow, standIns := [], harness := (true, "ae21217c0f1a19455f70e557530e3554c17029f8ed32c149a5872d77b78e2c6e"), looks := false }, kinds := [], alts := [], laidByText := true, laidKinds := [.widerDeep], laidTests := true, laidLooks := .later }
def VmBatchesCardSaid : Prop := Claim7.holds Tryd.pinned (.plain (OpenSpec.ofChange vmBatchesSpec)) vmBatchesCard

/-- THE TIED CARD OF 'erratalaw27.VmTells'. -/
def vmTellsCard : Claim7 := { stood := { row := vmTellsRow, standIns := [], harness := (true, "ae21217c0f1a19455f70e557530e3554c17029f8ed32c149a5872d77b78e2c6e"), looks := false }, kinds := [], alts := [], laidByText := true, laidKinds := [.widerDeep], laidTests := true, laidLooks := .later }
def VmTellsCardSaid : Prop := Claim7.holds Tryd.pinned (.plain (OpenSpec.ofChange vmTellsSpec)) vmTellsCard

/-- THE TIED CARD OF 'erratalaw27.VmTrims'. -/
def vmTrimsCard : Claim7 := { stood := { row := vmTrimsRow, standIns := [], harness := (true, "ae21217c0f1a19455f70e557530e3554c17029f8ed32c149a5872d77b78e2c6e"), looks := false }, kinds := [], alts := [], laidByText := true, laidKinds := [.widerDeep], laidTests := true, laidLooks := .later }
def VmTrimsCardSaid : Prop := Claim7.holds Tryd.pinned (.plain (OpenSpec.ofChange vmTrimsSpec)) vmTrimsCard

/-- THE SECOND FORM's CARD OF 'erratalaw27.VmBatches'. -/
def vmBatchesUptoCard : Claim7 := { stood := { row := vmBatchesUptoRow, standIns := [], harness := (true, "ae21217c0f1a19455f70e557530e3554c17029f8ed32c149a5872d77b78e2c6e"), looks := false }, kinds := [], alts := [], laidByText := true, laidKinds := [.widerDeep], laidTests := true, laidLooks := .later }
def VmBatchesUptoCardSaid : Prop := Claim7.holds Tryd.pinned (.plain (OpenSpec.upto vmBatchesSpec)) vmBatchesUptoCard

/-- THE SECOND FORM's CARD OF 'erratalaw27.VmTells'. -/
def vmTellsUptoCard : Claim7 := { stood := { row := vmTellsUptoRow, standIns := [], harness := (true, "ae21217c0f1a19455f70e557530e3554c17029f8ed32c149a5872d77b78e2c6e"), looks := false }, kinds := [], alts := [], laidByText := true, laidKinds := [.widerDeep], laidTests := true, laidLooks := .later }
def VmTellsUptoCardSaid : Prop := Claim7.holds Tryd.pinned (.plain (OpenSpec.upto vmTellsSpec)) vmTellsUptoCard

/-- THE SECOND FORM's CARD OF 'erratalaw27.VmTrims'. -/
def vmTrimsUptoCard : Claim7 := { stood := { row := vmTrimsUptoRow, standIns := [], harness := (true, "ae21217c0f1a19455f70e557530e3554c17029f8ed32c149a5872d77b78e2c6e"), looks := false }, kinds := [], alts := [], laidByText := true, laidKinds := [.widerDeep], laidTests := true, laidLooks := .later }
def VmTrimsUptoCardSaid : Prop := Claim7.holds Tryd.pinned (.plain (OpenSpec.upto vmTrimsSpec)) vmTrimsUptoCard
end Rows
end Go.Proofs.YtlbckmllpciglaaDoor
