/- What the rows' frames share: the two closed facts on the program, what is known of a slice of bytes that came in, and what a law's walk comes to. -/
import Derived.Test.YtkeecifolpidmaaDoorLaid
import Derived.Test.YtkeecifolpidmaaDoorCards
import Derived.ChangeOld
import Derived.SevenTiedAt
namespace Go.Proofs.YtkeecifolpidmaaDoor
open Go.ChangeShapes Go.WideShapes Go.ChangeAt Go.RowKit

/-- The law gives true; nothing that was there has turned. -/
def LawPost (w : World) (r : Ending) (w' : World) : Prop := r = .returned (.bool true) ∧ Below w.heap.size w w'

theorem own : ownKnob Tryd.prog.godebug = none := by kernel_rfl
theorem laidOut : laidOutB Tryd.prog = true := by kernel_rfl

/-- WHAT THE WALK IS TOLD OF A SLICE OF BYTES THAT CAME IN: it is empty; or its first len cells are bytes. -/
def IsBytes (w : World) (a : Option Addr) (len : Nat) : Prop :=
  len = 0 ∨ ∃ b off, ∃ E : Nat → Nat, a = some ⟨b, off, none⟩ ∧ ∀ k, k < len → w.cell? ⟨b, off + k, none⟩ = some (.int .u8 (E k))

theorem isBytes_of_open {w : World} {a : Addr} {len cap : Nat} {zs : List Int} (hl : len ≤ cap) (hz : zs.length = cap) (hcell : ∀ i, i < zs.length → w.cell? (a.add i) = some (.int .u8 (zs.getD i 0))) (hwz : ∀ n ∈ zs, (Lit.int .u8 n).wf = true) : IsBytes w (some a) len := by
  by_cases h0 : len = 0
  · exact Or.inl h0
  · obtain ⟨b, off, rfl, hc⟩ := ints_at hcell (by omega)
    refine Or.inr ⟨b, off, fun k => (zs.getD k 0).toNat, rfl, fun k hk => ?_⟩
    have hr := range_u8 hwz k
    rw [hc k (by omega)]
    rw [← List.getD_eq_getElem?_getD] at hr
    congr 2
    exact (Int.toNat_of_nonneg hr.1).symm

end Go.Proofs.YtkeecifolpidmaaDoor
