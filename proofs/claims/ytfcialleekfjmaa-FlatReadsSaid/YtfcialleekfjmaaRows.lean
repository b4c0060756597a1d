/-
  NARROWER THAN 'FOR EVERY INPUT', by the rows' own cells (each row's printed sentence says how): FlatNone: loops · FlatWrites: loops · FlatBack: loops.
  DERIVED. THE GIVEN ROWS OF THIS SEAT. 5 by the template 'for every input the law returns true; each argument reads behind the call as it read before'; 0 by the template 'total and deterministic' (their statements: YtfcialleekfjmaaTotals.lean).
  GIVEN WITH THE SEED: the statements are not yours to turn. If you find one false, say at which input.
  Laid BY PROGRAM, IN A SANDBOX (cutbox-rows.mjs): the forced cells as the released guide's own fill.sh prints them over the translation 2e7a202f09308a2a… (all of the seat's roots in one cut). By AI agents, Wed Nov 11 2026. No macro, syntax, notation, axiom, sorry.
-/
import Derived.Test.YtfcialleekfjmaaChecked
import GoSem.Claim
import GoSem.ClaimJoined
import GoSem.ClaimMapViews
import Derived.JoinedTies
import Derived.KernelRfl
namespace Go.Proofs.Ytfcialleekfjmaa
/- THE CELL 'sum', in the pinned program and in every row, IS THE sha256 OF THE DUMP (.gsa) THAT YtfcialleekfjmaaProg.lean LOADS. Nothing in Lean hashes anything: it is a label: what it is worth is what the hold of that sum in a sandbox is worth. -/
noncomputable def Try.pinned : Pinned := { name := "ytfcialleekfjmaa", sum := "2e7a202f09308a2aa8d67e151971ba05fc40785788aa668c12cf505d85c112f1", checked := Try.checked }
namespace Rows
def none {H : Type} : Left H := { results := [], args := [] }

/-- 'tenurelaw07.FlatNone': WHATEVER THE INPUT: true; the input reads as it did. -/
def flatNoneSpec : ChangeSpec := { name := "flatNone", fn := fun _ => fun
  | [d1, d2] => { results := [.lit (.bool true)], args := [d1, d2] }
  | _ => none }
def flatNoneRow : OpenClaim := { program := "ytfcialleekfjmaa", sum := "2e7a202f09308a2aa8d67e151971ba05fc40785788aa668c12cf505d85c112f1", func := "tenure/tenurelaw07.FlatNone", spec := "flatNone", unfollowed := true, recurses := true, loops := true, apart := false }
def FlatNoneSaid : Prop := flatNoneRow.holds Try.pinned (OpenSpec.ofChange flatNoneSpec)

/-- ITS FALSE NEIGHBOUR: 'it returns false'. Refute it at one input. -/
def flatNoneWrong : ChangeSpec := { name := "flatNone", fn := fun _ => fun
  | [d1, d2] => { results := [.lit (.bool false)], args := [d1, d2] }
  | _ => none }
def FlatNoneWrongFalsely : Prop := flatNoneRow.holds Try.pinned (OpenSpec.ofChange flatNoneWrong)

/-- 'tenurelaw07.FlatKnown': WHATEVER THE INPUT: true; the input reads as it did. -/
def flatKnownSpec : ChangeSpec := { name := "flatKnown", fn := fun _ => fun
  | [] => { results := [.lit (.bool true)], args := [] }
  | _ => none }
def flatKnownRow : OpenClaim := { program := "ytfcialleekfjmaa", sum := "2e7a202f09308a2aa8d67e151971ba05fc40785788aa668c12cf505d85c112f1", func := "tenure/tenurelaw07.FlatKnown", spec := "flatKnown", unfollowed := true, recurses := true, apart := false }
def FlatKnownSaid : Prop := flatKnownRow.holds Try.pinned (OpenSpec.ofChange flatKnownSpec)

/-- ITS FALSE NEIGHBOUR: 'it returns false'. Refute it at one input. -/
def flatKnownWrong : ChangeSpec := { name := "flatKnown", fn := fun _ => fun
  | [] => { results := [.lit (.bool false)], args := [] }
  | _ => none }
def FlatKnownWrongFalsely : Prop := flatKnownRow.holds Try.pinned (OpenSpec.ofChange flatKnownWrong)

/-- 'tenurelaw07.FlatWrites': WHATEVER THE INPUT: true; the input reads as it did. -/
def flatWritesSpec : ChangeSpec := { name := "flatWrites", fn := fun _ => fun
  | [d1, d2] => { results := [.lit (.bool true)], args := [d1, d2] }
  | _ => none }
def flatWritesRow : OpenClaim := { program := "ytfcialleekfjmaa", sum := "2e7a202f09308a2aa8d67e151971ba05fc40785788aa668c12cf505d85c112f1", func := "tenure/tenurelaw07.FlatWrites", spec := "flatWrites", unfollowed := true, recurses := true, loops := true, apart := false }
def FlatWritesSaid : Prop := flatWritesRow.holds Try.pinned (OpenSpec.ofChange flatWritesSpec)

/-- ITS FALSE NEIGHBOUR: 'it returns false'. Refute it at one input. -/
def flatWritesWrong : ChangeSpec := { name := "flatWrites", fn := fun _ => fun
  | [d1, d2] => { results := [.lit (.bool false)], args := [d1, d2] }
  | _ => none }
def FlatWritesWrongFalsely : Prop := flatWritesRow.holds Try.pinned (OpenSpec.ofChange flatWritesWrong)

/-- 'tenurelaw07.FlatReads': WHATEVER THE INPUT: true; the input reads as it did. -/
def flatReadsSpec : ChangeSpec := { name := "flatReads", fn := fun _ => fun
  | [d1, d2, d3] => { results := [.lit (.bool true)], args := [d1, d2, d3] }
  | _ => none }
def flatReadsRow : OpenClaim := { program := "ytfcialleekfjmaa", sum := "2e7a202f09308a2aa8d67e151971ba05fc40785788aa668c12cf505d85c112f1", func := "tenure/tenurelaw07.FlatReads", spec := "flatReads", unfollowed := true, recurses := true, apart := false }
def FlatReadsSaid : Prop := flatReadsRow.holds Try.pinned (OpenSpec.ofChange flatReadsSpec)

/-- ITS FALSE NEIGHBOUR: 'it returns false'. Refute it at one input. -/
def flatReadsWrong : ChangeSpec := { name := "flatReads", fn := fun _ => fun
  | [d1, d2, d3] => { results := [.lit (.bool false)], args := [d1, d2, d3] }
  | _ => none }
def FlatReadsWrongFalsely : Prop := flatReadsRow.holds Try.pinned (OpenSpec.ofChange flatReadsWrong)

/-- 'tenurelaw07.FlatBack': WHATEVER THE INPUT: true; the input reads as it did. -/
def flatBackSpec : ChangeSpec := { name := "flatBack", fn := fun _ => fun
  | [d1, d2, d3] => { results := [.lit (.bool true)], args := [d1, d2, d3] }
  | _ => none }
def flatBackRow : OpenClaim := { program := "ytfcialleekfjmaa", sum := "2e7a202f09308a2aa8d67e151971ba05fc40785788aa668c12cf505d85c112f1", func := "tenure/tenurelaw07.FlatBack", spec := "flatBack", unfollowed := true, recurses := true, loops := true, apart := false }
def FlatBackSaid : Prop := flatBackRow.holds Try.pinned (OpenSpec.ofChange flatBackSpec)

/-- ITS FALSE NEIGHBOUR: 'it returns false'. Refute it at one input. -/
def flatBackWrong : ChangeSpec := { name := "flatBack", fn := fun _ => fun
  | [d1, d2, d3] => { results := [.lit (.bool false)], args := [d1, d2, d3] }
  | _ => none }
def FlatBackWrongFalsely : Prop := flatBackRow.holds Try.pinned (OpenSpec.ofChange flatBackWrong)

/- THE SECOND FORM. 'bulk': how many values and letters a reading holds, each counted each time it is reached (what is shared counts as often as it is met; a slice's spare places count too). A statement '..UptoSaid' is the law's where the arguments, and the package variables that the reading takes, are together of bulk at most 1048576: NARROWER than '..Said'. Prove '..Said' where nothing that the law and all that it calls make is longer than what came in: it says more and counts as full. Else prove '..UptoSaid'. A law counts once. -/
mutual
def uptoBulk {H : Type} : DataW H → Nat
  | .lit (.string bytes) => bytes.length + 1
  | .lit _ => 1
  | .nil => 1
  | .ptr d => uptoBulk d + 1
  | .slice elems spare => uptoBulkAll elems + uptoBulkAll spare + 1
  | .agg parts => uptoBulkAll parts + 1
  | .iface _ d => uptoBulk d + 1
  | .map entries => uptoBulkEntries entries + 1
  | .held _ => 1
def uptoBulkAll {H : Type} : List (DataW H) → Nat
  | [] => 0
  | d :: r => uptoBulk d + uptoBulkAll r
def uptoBulkEntries {H : Type} : List (Lit × DataW H) → Nat
  | [] => 0
  | x :: r => uptoBulkEntry x + uptoBulkEntries r
def uptoBulkEntry {H : Type} : Lit × DataW H → Nat
  | (.string bytes, d) => bytes.length + uptoBulk d + 1
  | (_, d) => uptoBulk d + 1
 end
def uptoSmall : (H : Type) → List (DataW H) → Bool := fun _ ds => decide (uptoBulkAll ds ≤ 1048576)
def OpenSpec.upto (s : _root_.Go.ChangeSpec) : _root_.Go.OpenSpec := { _root_.Go.OpenSpec.ofChange s with cond := some uptoSmall }

/-- 'tenurelaw07.FlatNone', WHERE WHAT IT READS IS OF BULK AT MOST 1048576: true; the input reads as it did. -/
def flatNoneUptoRow : OpenClaim := { program := "ytfcialleekfjmaa", sum := "2e7a202f09308a2aa8d67e151971ba05fc40785788aa668c12cf505d85c112f1", func := "tenure/tenurelaw07.FlatNone", spec := "flatNone", unfollowed := true, recurses := true, loops := true, apart := false, narrowed := true }
def FlatNoneUptoSaid : Prop := flatNoneUptoRow.holds Try.pinned (OpenSpec.upto flatNoneSpec)

/-- 'tenurelaw07.FlatKnown', WHERE WHAT IT READS IS OF BULK AT MOST 1048576: true; the input reads as it did. -/
def flatKnownUptoRow : OpenClaim := { program := "ytfcialleekfjmaa", sum := "2e7a202f09308a2aa8d67e151971ba05fc40785788aa668c12cf505d85c112f1", func := "tenure/tenurelaw07.FlatKnown", spec := "flatKnown", unfollowed := true, recurses := true, apart := false, narrowed := true }
def FlatKnownUptoSaid : Prop := flatKnownUptoRow.holds Try.pinned (OpenSpec.upto flatKnownSpec)

/-- 'tenurelaw07.FlatWrites', WHERE WHAT IT READS IS OF BULK AT MOST 1048576: true; the input reads as it did. -/
def flatWritesUptoRow : OpenClaim := { program := "ytfcialleekfjmaa", sum := "2e7a202f09308a2aa8d67e151971ba05fc40785788aa668c12cf505d85c112f1", func := "tenure/tenurelaw07.FlatWrites", spec := "flatWrites", unfollowed := true, recurses := true, loops := true, apart := false, narrowed := true }
def FlatWritesUptoSaid : Prop := flatWritesUptoRow.holds Try.pinned (OpenSpec.upto flatWritesSpec)

/-- 'tenurelaw07.FlatReads', WHERE WHAT IT READS IS OF BULK AT MOST 1048576: true; the input reads as it did. -/
def flatReadsUptoRow : OpenClaim := { program := "ytfcialleekfjmaa", sum := "2e7a202f09308a2aa8d67e151971ba05fc40785788aa668c12cf505d85c112f1", func := "tenure/tenurelaw07.FlatReads", spec := "flatReads", unfollowed := true, recurses := true, apart := false, narrowed := true }
def FlatReadsUptoSaid : Prop := flatReadsUptoRow.holds Try.pinned (OpenSpec.upto flatReadsSpec)

/-- 'tenurelaw07.FlatBack', WHERE WHAT IT READS IS OF BULK AT MOST 1048576: true; the input reads as it did. -/
def flatBackUptoRow : OpenClaim := { program := "ytfcialleekfjmaa", sum := "2e7a202f09308a2aa8d67e151971ba05fc40785788aa668c12cf505d85c112f1", func := "tenure/tenurelaw07.FlatBack", spec := "flatBack", unfollowed := true, recurses := true, loops := true, apart := false, narrowed := true }
def FlatBackUptoSaid : Prop := flatBackUptoRow.holds Try.pinned (OpenSpec.upto flatBackSpec)

end Rows
end Go.Proofs.Ytfcialleekfjmaa
