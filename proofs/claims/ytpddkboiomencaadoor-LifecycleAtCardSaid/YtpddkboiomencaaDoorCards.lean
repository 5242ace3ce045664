/-
  DERIVED. GIVEN WITH THE SEED: THE CARDS: each row of YtpddkboiomencaaDoorRows.lean that lists a variable, with what it lists TIED to the program's text (the seventh form; the later family's looks); each row that meets fmt, with fmt's text TOLD by the authors' own Lean function (tested against real Go, not proved from fmt's source: count such statements apart). THE CARD IS WHAT COUNTS. Prove the row's statement (the work); the ties are given (YtpddkboiomencaaDoorTie.lean); close each card by the builder's one call (the guide's Derived/Test/ToyasCard.lean, 'card_holds'). Laid BY PROGRAM, IN A SANDBOX (cutbox-door.mjs). By AI agents, Wed Nov 11 2026. No macro, syntax, notation, axiom, sorry.
-/
import Derived.Test.YtpddkboiomencaaDoorRows
import GoSem.ClaimSeven
namespace Go.Proofs.YtpddkboiomencaaDoor
namespace Rows

/-- THE TIED CARD OF 'girolaw25.LifecycleRecord'. -/
def lifecycleRecordCard : Claim7 := { stood := { row := lifecycleRecordRow, standIns := [], harness := (true, "d609338033ad83af0210f48ade9af9b3bca6b4cb7b51531c1d8b304cef90d6b2"), looks := false }, kinds := [], alts := [], laidByText := true, laidKinds := [.data, .data, .data], laidTests := true, laidLooks := .later }
def LifecycleRecordCardSaid : Prop := Claim7.holds Tryd.pinned (.plain (OpenSpec.ofChange lifecycleRecordSpec)) lifecycleRecordCard

/-- THE TIED CARD OF 'girolaw25.LifecycleReplay'. -/
def lifecycleReplayCard : Claim7 := { stood := { row := lifecycleReplayRow, standIns := [], harness := (true, "d609338033ad83af0210f48ade9af9b3bca6b4cb7b51531c1d8b304cef90d6b2"), looks := false }, kinds := [], alts := [], laidByText := true, laidKinds := [.data, .data, .data], laidTests := true, laidLooks := .later }
def LifecycleReplayCardSaid : Prop := Claim7.holds Tryd.pinned (.plain (OpenSpec.ofChange lifecycleReplaySpec)) lifecycleReplayCard

/-- THE TIED CARD OF 'girolaw25.LifecycleAt'. -/
def lifecycleAtCard : Claim7 := { stood := { row := lifecycleAtRow, standIns := [], harness := (true, "d609338033ad83af0210f48ade9af9b3bca6b4cb7b51531c1d8b304cef90d6b2"), looks := false }, kinds := [], alts := [], laidByText := true, laidKinds := [.data, .data, .data], laidTests := true, laidLooks := .later }
def LifecycleAtCardSaid : Prop := Claim7.holds Tryd.pinned (.plain (OpenSpec.ofChange lifecycleAtSpec)) lifecycleAtCard

/-- THE TIED CARD OF 'girolaw25.LifecycleFinality'. -/
def lifecycleFinalityCard : Claim7 := { stood := { row := lifecycleFinalityRow, standIns := [], harness := (true, "d609338033ad83af0210f48ade9af9b3bca6b4cb7b51531c1d8b304cef90d6b2"), looks := false }, kinds := [], alts := [], laidByText := true, laidKinds := [.data, .data, .data], laidTests := true, laidLooks := .later }
def LifecycleFinalityCardSaid : Prop := Claim7.holds Tryd.pinned (.plain (OpenSpec.ofChange lifecycleFinalitySpec)) lifecycleFinalityCard

/-- THE TIED CARD OF 'girolaw25.LifecycleNilClone'. -/
def lifecycleNilCloneCard : Claim7 := { stood := { row := lifecycleNilCloneRow, standIns := [], harness := (true, "d609338033ad83af0210f48ade9af9b3bca6b4cb7b51531c1d8b304cef90d6b2"), looks := false }, kinds := [], alts := [], laidByText := true, laidKinds := [.data, .data, .data], laidTests := true, laidLooks := .later }
def LifecycleNilCloneCardSaid : Prop := Claim7.holds Tryd.pinned (.plain (OpenSpec.ofChange lifecycleNilCloneSpec)) lifecycleNilCloneCard

/-- THE SECOND FORM's CARD OF 'girolaw25.LifecycleRecord'. -/
def lifecycleRecordUptoCard : Claim7 := { stood := { row := lifecycleRecordUptoRow, standIns := [], harness := (true, "d609338033ad83af0210f48ade9af9b3bca6b4cb7b51531c1d8b304cef90d6b2"), looks := false }, kinds := [], alts := [], laidByText := true, laidKinds := [.data, .data, .data], laidTests := true, laidLooks := .later }
def LifecycleRecordUptoCardSaid : Prop := Claim7.holds Tryd.pinned (.plain (OpenSpec.upto lifecycleRecordSpec)) lifecycleRecordUptoCard

/-- THE SECOND FORM's CARD OF 'girolaw25.LifecycleReplay'. -/
def lifecycleReplayUptoCard : Claim7 := { stood := { row := lifecycleReplayUptoRow, standIns := [], harness := (true, "d609338033ad83af0210f48ade9af9b3bca6b4cb7b51531c1d8b304cef90d6b2"), looks := false }, kinds := [], alts := [], laidByText := true, laidKinds := [.data, .data, .data], laidTests := true, laidLooks := .later }
def LifecycleReplayUptoCardSaid : Prop := Claim7.holds Tryd.pinned (.plain (OpenSpec.upto lifecycleReplaySpec)) lifecycleReplayUptoCard

/-- THE SECOND FORM's CARD OF 'girolaw25.LifecycleAt'. -/
def lifecycleAtUptoCard : Claim7 := { stood := { row := lifecycleAtUptoRow, standIns := [], harness := (true, "d609338033ad83af0210f48ade9af9b3bca6b4cb7b51531c1d8b304cef90d6b2"), looks := false }, kinds := [], alts := [], laidByText := true, laidKinds := [.data, .data, .data], laidTests := true, laidLooks := .later }
def LifecycleAtUptoCardSaid : Prop := Claim7.holds Tryd.pinned (.plain (OpenSpec.upto lifecycleAtSpec)) lifecycleAtUptoCard

/-- THE SECOND FORM's CARD OF 'girolaw25.LifecycleFinality'. -/
def lifecycleFinalityUptoCard : Claim7 := { stood := { row := lifecycleFinalityUptoRow, standIns := [], harness := (true, "d609338033ad83af0210f48ade9af9b3bca6b4cb7b51531c1d8b304cef90d6b2"), looks := false }, kinds := [], alts := [], laidByText := true, laidKinds := [.data, .data, .data], laidTests := true, laidLooks := .later }
def LifecycleFinalityUptoCardSaid : Prop := Claim7.holds Tryd.pinned (.plain (OpenSpec.upto lifecycleFinalitySpec)) lifecycleFinalityUptoCard

/-- THE SECOND FORM's CARD OF 'girolaw25.LifecycleNilClone'. -/
def lifecycleNilCloneUptoCard : Claim7 := { stood := { row := lifecycleNilCloneUptoRow, standIns := [], harness := (true, "d609338033ad83af0210f48ade9af9b3bca6b4cb7b51531c1d8b304cef90d6b2"), looks := false }, kinds := [], alts := [], laidByText := true, laidKinds := [.data, .data, .data], laidTests := true, laidLooks := .later }
def LifecycleNilCloneUptoCardSaid : Prop := Claim7.holds Tryd.pinned (.plain (OpenSpec.upto lifecycleNilCloneSpec)) lifecycleNilCloneUptoCard
end Rows
end Go.Proofs.YtpddkboiomencaaDoor
