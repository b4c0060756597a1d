/- CopyTerm, CopyTerms of tenurekit, by contracts: the same term, in new memory. -/
import Derived.Test.YtnedjmjcbmoknaaTmSame
namespace Go.Proofs.Ytnedjmjcbmoknaa.K
open Go.RowKit
set_option linter.unusedVariables false
set_option linter.unusedSimpArgs false

/-- A term told that is the same, all of it new. -/
def Copied (w : World) (t : Tm) (e : Ending) (w' : World) : Prop := ∃ v', e = .returned v' ∧ TAt w' (Fr w w') t v' ∧ Below w.heap.size w w'
def CopiedL (w : World) (l : List Tm) (e : Ending) (w' : World) : Prop := ∃ v', e = .returned v' ∧ SlAt w' (Fr w w') v' l ∧ Below w.heap.size w w'
theorem infoT : (Try.prog.info? 28).map (fun i => (i.zero, i.size, i.bytes)) = some (some (.agg #[.int .i64 0, .int .i64 0, .string .empty, .slice none 0 0]), 4, 56) := by kernel_rfl

theorem hb_size {B : Nat} {w w1 w2 : World} (h : Below B w w1) (h' : Below w1.heap.size w1 w2) : w.heap.size ≤ w2.heap.size := Nat.le_trans h.size h'.size
end Go.Proofs.Ytnedjmjcbmoknaa.K
