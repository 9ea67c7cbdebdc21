/-
  NARROWER THAN 'FOR EVERY INPUT', by the rows' own cells (each row's printed sentence says how): FsmBoth: laid · FsmUp: laid · FsmEnds: laid · FsmTells: laid.
  DERIVED. THE GIVEN ROWS OF THIS SEAT. 4 by the template 'for every input the law returns true; each argument reads behind the call as it read before'; 0 by the template 'total and deterministic' (their statements: YtkeecifolpidmaaDoorTotals.lean).
  GIVEN WITH THE SEED: the statements are not yours to turn. If you find one false, say at which input.
  Laid BY PROGRAM, IN A SANDBOX (cutbox-rows.mjs): the forced cells as the released guide's own fill.sh prints them over the translation e4e28209f4aebe54… (all of the seat's roots in one cut). By AI agents, Wed Nov 11 2026. No macro, syntax, notation, axiom, sorry.
-/
import Derived.Test.YtkeecifolpidmaaDoorChecked
import GoSem.Claim
import GoSem.ClaimJoined
import GoSem.ClaimMapViews
import Derived.JoinedTies
import Derived.KernelRfl
namespace Go.Proofs.YtkeecifolpidmaaDoor
/- THE CELL 'sum', in the pinned program and in every row, IS THE sha256 OF THE DUMP (.gsa) THAT YtkeecifolpidmaaDoorProg.lean LOADS. Nothing in Lean hashes anything: it is a label: what it is worth is what the hold of that sum in a sandbox is worth. -/
noncomputable def Tryd.pinned : Pinned := { name := "ytkeecifolpidmaadoor", sum := "e4e28209f4aebe54747955e199c8c37c07912ded4c12697ae6f34d6e8fe0cb0f", checked := Tryd.checked }
namespace Rows
def none {H : Type} : Left H := { results := [], args := [] }

/- WHAT THE LISTED PACKAGE-LEVEL VARIABLES READ AS WHEN THE CALL BEGINS. Each datum BY PROGRAM (the guide's laid-datum.mjs) off the statement by which the dump's own 'gosem.cut.vars' lays the variable. In a bare row this is a premise. The card (YtkeecifolpidmaaDoorCards.lean) ties it to the program's text. -/
def laid_halyard_fsm_never {H : Type} : DataW H := .agg [.agg [.lit (.int .u16 0), .lit (.int .u8 0)], .lit (.bool false)]
def laid_halyard_fsm_names {H : Type} : DataW H := .agg [.lit (.string [73, 110, 105, 116, 105, 97, 108]), .lit (.string [83, 116, 97, 114, 116, 105, 110, 103]), .lit (.string [67, 108, 111, 115, 101, 100]), .lit (.string [83, 116, 111, 112, 112, 101, 100]), .lit (.string [67, 108, 111, 115, 105, 110, 103]), .lit (.string [83, 116, 111, 112, 112, 105, 110, 103]), .lit (.string [82, 101, 113, 83, 101, 110, 116]), .lit (.string [65, 99, 107, 82, 99, 118, 100]), .lit (.string [65, 99, 107, 83, 101, 110, 116]), .lit (.string [79, 112, 101, 110, 101, 100])]

/-- 'halyardlaw12.FsmBoth': WHATEVER THE INPUT: true; the input reads as it did. -/
def fsmBothSpec : ChangeSpec := { name := "fsmBoth", fn := fun _ => fun
  | [d] => { results := [.lit (.bool true)], args := [d] }
  | _ => none }
def fsmBothRow : OpenClaim := { program := "ytkeecifolpidmaadoor", sum := "e4e28209f4aebe54747955e199c8c37c07912ded4c12697ae6f34d6e8fe0cb0f", func := "halyard/halyardlaw12.FsmBoth", spec := "fsmBoth", named := ["halyard/fsm.never", "halyard/fsm.names"], apart := false, laid := [("halyard/fsm.never", laid_halyard_fsm_never), ("halyard/fsm.names", laid_halyard_fsm_names)] }
def FsmBothSaid : Prop := fsmBothRow.holds Tryd.pinned (OpenSpec.ofChange fsmBothSpec)

/-- ITS FALSE NEIGHBOUR: 'it returns false'. Refute it at one input. -/
def fsmBothWrong : ChangeSpec := { name := "fsmBoth", fn := fun _ => fun
  | [d] => { results := [.lit (.bool false)], args := [d] }
  | _ => none }
def FsmBothWrongFalsely : Prop := fsmBothRow.holds Tryd.pinned (OpenSpec.ofChange fsmBothWrong)

/-- 'halyardlaw12.FsmUp': WHATEVER THE INPUT: true; the input reads as it did. -/
def fsmUpSpec : ChangeSpec := { name := "fsmUp", fn := fun _ => fun
  | [d] => { results := [.lit (.bool true)], args := [d] }
  | _ => none }
def fsmUpRow : OpenClaim := { program := "ytkeecifolpidmaadoor", sum := "e4e28209f4aebe54747955e199c8c37c07912ded4c12697ae6f34d6e8fe0cb0f", func := "halyard/halyardlaw12.FsmUp", spec := "fsmUp", named := ["halyard/fsm.never", "halyard/fsm.names"], apart := false, laid := [("halyard/fsm.never", laid_halyard_fsm_never), ("halyard/fsm.names", laid_halyard_fsm_names)] }
def FsmUpSaid : Prop := fsmUpRow.holds Tryd.pinned (OpenSpec.ofChange fsmUpSpec)

/-- ITS FALSE NEIGHBOUR: 'it returns false'. Refute it at one input. -/
def fsmUpWrong : ChangeSpec := { name := "fsmUp", fn := fun _ => fun
  | [d] => { results := [.lit (.bool false)], args := [d] }
  | _ => none }
def FsmUpWrongFalsely : Prop := fsmUpRow.holds Tryd.pinned (OpenSpec.ofChange fsmUpWrong)

/-- 'halyardlaw12.FsmEnds': WHATEVER THE INPUT: true; the input reads as it did. -/
def fsmEndsSpec : ChangeSpec := { name := "fsmEnds", fn := fun _ => fun
  | [d1, d2] => { results := [.lit (.bool true)], args := [d1, d2] }
  | _ => none }
def fsmEndsRow : OpenClaim := { program := "ytkeecifolpidmaadoor", sum := "e4e28209f4aebe54747955e199c8c37c07912ded4c12697ae6f34d6e8fe0cb0f", func := "halyard/halyardlaw12.FsmEnds", spec := "fsmEnds", named := ["halyard/fsm.never", "halyard/fsm.names"], apart := false, laid := [("halyard/fsm.never", laid_halyard_fsm_never), ("halyard/fsm.names", laid_halyard_fsm_names)] }
def FsmEndsSaid : Prop := fsmEndsRow.holds Tryd.pinned (OpenSpec.ofChange fsmEndsSpec)

/-- ITS FALSE NEIGHBOUR: 'it returns false'. Refute it at one input. -/
def fsmEndsWrong : ChangeSpec := { name := "fsmEnds", fn := fun _ => fun
  | [d1, d2] => { results := [.lit (.bool false)], args := [d1, d2] }
  | _ => none }
def FsmEndsWrongFalsely : Prop := fsmEndsRow.holds Tryd.pinned (OpenSpec.ofChange fsmEndsWrong)

/-- 'halyardlaw12.FsmTells': WHATEVER THE INPUT: true; the input reads as it did. -/
def fsmTellsSpec : ChangeSpec := { name := "fsmTells", fn := fun _ => fun
  | [d1, d2, d3] => { results := [.lit (.bool true)], args := [d1, d2, d3] }
  | _ => none }
def fsmTellsRow : OpenClaim := { program := "ytkeecifolpidmaadoor", sum := "e4e28209f4aebe54747955e199c8c37c07912ded4c12697ae6f34d6e8fe0cb0f", func := "halyard/halyardlaw12.FsmTells", spec := "fsmTells", named := ["halyard/fsm.never", "halyard/fsm.names"], apart := false, laid := [("halyard/fsm.never", laid_halyard_fsm_never), ("halyard/fsm.names", laid_halyard_fsm_names)] }
def FsmTellsSaid : Prop := fsmTellsRow.holds Tryd.pinned (OpenSpec.ofChange fsmTellsSpec)

/-- ITS FALSE NEIGHBOUR: 'it returns false'. Refute it at one input. -/
def fsmTellsWrong : ChangeSpec := { name := "fsmTells", fn := fun _ => fun
  | [d1, d2, d3] => { results := [.lit (.bool false)], args := [d1, d2, d3] }
  | _ => none }
def FsmTellsWrongFalsely : Prop := fsmTellsRow.holds Tryd.pinned (OpenSpec.ofChange fsmTellsWrong)

/- THE SECOND FORM. 'bulk': how many values and letters a reading holds, each counted each time it is reached (what is shared counts as often as it is met; a slice's spare places count too). A statement '..UptoSaid' is the law's where the arguments, and the package variables that the reading takes, are together of bulk at most 1048576: NARROWER than '..Said'. Prove '..Said' where nothing that the law and all that it calls make is longer than what came in: it says more and counts as full. Else prove '..UptoSaid'. A law counts once. -/
mutual
def uptoBulk {H : Type} : DataW H → Nat
  | .lit (.string bytes) => bytes.length + 1
  | .lit _ => 1
  | .nil => 1
  | .ptr d => uptoBulk d + 1
  | .slice elems spare => uptoBulkAll elems + uptoBulkAll spare + 1
  | .agg parts => uptoBulkAll parts + 1
  | .iface _ d => uptoBulk d + 1
  | .map entries => uptoBulkEntries entries + 1
  | .held _ => 1
def uptoBulkAll {H : Type} : List (DataW H) → Nat
  | [] => 0
  | d :: r => uptoBulk d + uptoBulkAll r
def uptoBulkEntries {H : Type} : List (Lit × DataW H) → Nat
  | [] => 0
  | x :: r => uptoBulkEntry x + uptoBulkEntries r
def uptoBulkEntry {H : Type} : Lit × DataW H → Nat
  | (.string bytes, d) => bytes.length + uptoBulk d + 1
  | (_, d) => uptoBulk d + 1
 end
def uptoSmall : (H : Type) → List (DataW H) → Bool := fun _ ds => decide (uptoBulkAll ds ≤ 1048576)
def OpenSpec.upto (s : _root_.Go.ChangeSpec) : _root_.Go.OpenSpec := { _root_.Go.OpenSpec.ofChange s with cond := some uptoSmall }

/-- 'halyardlaw12.FsmBoth', WHERE WHAT IT READS IS OF BULK AT MOST 1048576: true; the input reads as it did. -/
def fsmBothUptoRow : OpenClaim := { program := "ytkeecifolpidmaadoor", sum := "e4e28209f4aebe54747955e199c8c37c07912ded4c12697ae6f34d6e8fe0cb0f", func := "halyard/halyardlaw12.FsmBoth", spec := "fsmBoth", named := ["halyard/fsm.never", "halyard/fsm.names"], apart := false, laid := [("halyard/fsm.never", laid_halyard_fsm_never), ("halyard/fsm.names", laid_halyard_fsm_names)], narrowed := true }
def FsmBothUptoSaid : Prop := fsmBothUptoRow.holds Tryd.pinned (OpenSpec.upto fsmBothSpec)

/-- 'halyardlaw12.FsmUp', WHERE WHAT IT READS IS OF BULK AT MOST 1048576: true; the input reads as it did. -/
def fsmUpUptoRow : OpenClaim := { program := "ytkeecifolpidmaadoor", sum := "e4e28209f4aebe54747955e199c8c37c07912ded4c12697ae6f34d6e8fe0cb0f", func := "halyard/halyardlaw12.FsmUp", spec := "fsmUp", named := ["halyard/fsm.never", "halyard/fsm.names"], apart := false, laid := [("halyard/fsm.never", laid_halyard_fsm_never), ("halyard/fsm.names", laid_halyard_fsm_names)], narrowed := true }
def FsmUpUptoSaid : Prop := fsmUpUptoRow.holds Tryd.pinned (OpenSpec.upto fsmUpSpec)

/-- 'halyardlaw12.FsmEnds', WHERE WHAT IT READS IS OF BULK AT MOST 1048576: true; the input reads as it did. -/
def fsmEndsUptoRow : OpenClaim := { program := "ytkeecifolpidmaadoor", sum := "e4e28209f4aebe54747955e199c8c37c07912ded4c12697ae6f34d6e8fe0cb0f", func := "halyard/halyardlaw12.FsmEnds", spec := "fsmEnds", named := ["halyard/fsm.never", "halyard/fsm.names"], apart := false, laid := [("halyard/fsm.never", laid_halyard_fsm_never), ("halyard/fsm.names", laid_halyard_fsm_names)], narrowed := true }
def FsmEndsUptoSaid : Prop := fsmEndsUptoRow.holds Tryd.pinned (OpenSpec.upto fsmEndsSpec)

/-- 'halyardlaw12.FsmTells', WHERE WHAT IT READS IS OF BULK AT MOST 1048576: true; the input reads as it did. -/
def fsmTellsUptoRow : OpenClaim := { program := "ytkeecifolpidmaadoor", sum := "e4e28209f4aebe54747955e199c8c37c07912ded4c12697ae6f34d6e8fe0cb0f", func := "halyard/halyardlaw12.FsmTells", spec := "fsmTells", named := ["halyard/fsm.never", "halyard/fsm.names"], apart := false, laid := [("halyard/fsm.never", laid_halyard_fsm_never), ("halyard/fsm.names", laid_halyard_fsm_names)], narrowed := true }
def FsmTellsUptoSaid : Prop := fsmTellsUptoRow.holds Tryd.pinned (OpenSpec.upto fsmTellsSpec)

end Rows
end Go.Proofs.YtkeecifolpidmaaDoor
