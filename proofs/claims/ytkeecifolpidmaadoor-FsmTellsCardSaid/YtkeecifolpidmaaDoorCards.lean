/-
  DERIVED. GIVEN WITH THE SEED: THE CARDS: each row of YtkeecifolpidmaaDoorRows.lean that lists a variable, with what it lists TIED to the program's text (the seventh form; the later family's looks); each row that meets fmt, with fmt's text TOLD by the authors' own Lean function (tested against real Go, not proved from fmt's source: count such statements apart). THE CARD IS WHAT COUNTS. Prove the row's statement (the work); the ties are given (YtkeecifolpidmaaDoorTie.lean); close each card by the builder's one call (the guide's Derived/Test/ToyasCard.lean, 'card_holds'). Laid BY PROGRAM, IN A SANDBOX (cutbox-door.mjs). By AI agents, Wed Nov 11 2026. No macro, syntax, notation, axiom, sorry.
-/
import Derived.Test.YtkeecifolpidmaaDoorRows
import GoSem.ClaimSeven
namespace Go.Proofs.YtkeecifolpidmaaDoor
namespace Rows

/-- THE TIED CARD OF 'halyardlaw12.FsmBoth'. -/
def fsmBothCard : Claim7 := { stood := { row := fsmBothRow, standIns := [], harness := (true, "e6ed119c869194f516d26193423112cd6193886c715c56b25f28c252eba06216"), looks := false }, kinds := [], alts := [], laidByText := true, laidKinds := [.data, .data], laidTests := true, laidLooks := .later }
def FsmBothCardSaid : Prop := Claim7.holds Tryd.pinned (.plain (OpenSpec.ofChange fsmBothSpec)) fsmBothCard

/-- THE TIED CARD OF 'halyardlaw12.FsmUp'. -/
def fsmUpCard : Claim7 := { stood := { row := fsmUpRow, standIns := [], harness := (true, "e6ed119c869194f516d26193423112cd6193886c715c56b25f28c252eba06216"), looks := false }, kinds := [], alts := [], laidByText := true, laidKinds := [.data, .data], laidTests := true, laidLooks := .later }
def FsmUpCardSaid : Prop := Claim7.holds Tryd.pinned (.plain (OpenSpec.ofChange fsmUpSpec)) fsmUpCard

/-- THE TIED CARD OF 'halyardlaw12.FsmEnds'. -/
def fsmEndsCard : Claim7 := { stood := { row := fsmEndsRow, standIns := [], harness := (true, "e6ed119c869194f516d26193423112cd6193886c715c56b25f28c252eba06216"), looks := false }, kinds := [], alts := [], laidByText := true, laidKinds := [.data, .data], laidTests := true, laidLooks := .later }
def FsmEndsCardSaid : Prop := Claim7.holds Tryd.pinned (.plain (OpenSpec.ofChange fsmEndsSpec)) fsmEndsCard

/-- THE TIED CARD OF 'halyardlaw12.FsmTells'. -/
def fsmTellsCard : Claim7 := { stood := { row := fsmTellsRow, standIns := [], harness := (true, "e6ed119c869194f516d26193423112cd6193886c715c56b25f28c252eba06216"), looks := false }, kinds := [], alts := [], laidByText := true, laidKinds := [.data, .data], laidTests := true, laidLooks := .later }
def FsmTellsCardSaid : Prop := Claim7.holds Tryd.pinned (.plain (OpenSpec.ofChange fsmTellsSpec)) fsmTellsCard

/-- THE SECOND FORM's CARD OF 'halyardlaw12.FsmBoth'. -/
def fsmBothUptoCard : Claim7 := { stood := { row := fsmBothUptoRow, standIns := [], harness := (true, "e6ed119c869194f516d26193423112cd6193886c715c56b25f28c252eba06216"), looks := false }, kinds := [], alts := [], laidByText := true, laidKinds := [.data, .data], laidTests := true, laidLooks := .later }
def FsmBothUptoCardSaid : Prop := Claim7.holds Tryd.pinned (.plain (OpenSpec.upto fsmBothSpec)) fsmBothUptoCard

/-- THE SECOND FORM's CARD OF 'halyardlaw12.FsmUp'. -/
def fsmUpUptoCard : Claim7 := { stood := { row := fsmUpUptoRow, standIns := [], harness := (true, "e6ed119c869194f516d26193423112cd6193886c715c56b25f28c252eba06216"), looks := false }, kinds := [], alts := [], laidByText := true, laidKinds := [.data, .data], laidTests := true, laidLooks := .later }
def FsmUpUptoCardSaid : Prop := Claim7.holds Tryd.pinned (.plain (OpenSpec.upto fsmUpSpec)) fsmUpUptoCard

/-- THE SECOND FORM's CARD OF 'halyardlaw12.FsmEnds'. -/
def fsmEndsUptoCard : Claim7 := { stood := { row := fsmEndsUptoRow, standIns := [], harness := (true, "e6ed119c869194f516d26193423112cd6193886c715c56b25f28c252eba06216"), looks := false }, kinds := [], alts := [], laidByText := true, laidKinds := [.data, .data], laidTests := true, laidLooks := .later }
def FsmEndsUptoCardSaid : Prop := Claim7.holds Tryd.pinned (.plain (OpenSpec.upto fsmEndsSpec)) fsmEndsUptoCard

/-- THE SECOND FORM's CARD OF 'halyardlaw12.FsmTells'. -/
def fsmTellsUptoCard : Claim7 := { stood := { row := fsmTellsUptoRow, standIns := [], harness := (true, "e6ed119c869194f516d26193423112cd6193886c715c56b25f28c252eba06216"), looks := false }, kinds := [], alts := [], laidByText := true, laidKinds := [.data, .data], laidTests := true, laidLooks := .later }
def FsmTellsUptoCardSaid : Prop := Claim7.holds Tryd.pinned (.plain (OpenSpec.upto fsmTellsSpec)) fsmTellsUptoCard
end Rows
end Go.Proofs.YtkeecifolpidmaaDoor
