/-
  NARROWER THAN 'FOR EVERY INPUT', by the rows' own cells (each row's printed sentence says how): PatternMatches: loops · PatternFills: loops · PatternTells: loops · PatternBack: loops · PatternBound: loops.
  DERIVED. THE GIVEN ROWS OF THIS SEAT. 6 by the template 'for every input the law returns true; each argument reads behind the call as it read before'; 0 by the template 'total and deterministic' (their statements: YtlaplakaifmpeaaTotals.lean).
  GIVEN WITH THE SEED: the statements are not yours to turn. If you find one false, say at which input.
  Laid BY PROGRAM, IN A SANDBOX (cutbox-rows.mjs): the forced cells as the released guide's own fill.sh prints them over the translation 16bf7a2a74864bd2… (all of the seat's roots in one cut). By AI agents, Wed Nov 11 2026. No macro, syntax, notation, axiom, sorry.
-/
import Derived.Test.YtlaplakaifmpeaaChecked
import GoSem.Claim
import GoSem.ClaimJoined
import GoSem.ClaimMapViews
import Derived.JoinedTies
import Derived.KernelRfl
namespace Go.Proofs.Ytlaplakaifmpeaa
/- THE CELL 'sum', in the pinned program and in every row, IS THE sha256 OF THE DUMP (.gsa) THAT YtlaplakaifmpeaaProg.lean LOADS. Nothing in Lean hashes anything: it is a label: what it is worth is what the hold of that sum in a sandbox is worth. -/
noncomputable def Try.pinned : Pinned := { name := "ytlaplakaifmpeaa", sum := "16bf7a2a74864bd2577545104e34f36863dbf593ef1ebde42bfeab0b5408a68f", checked := Try.checked }
namespace Rows
def none {H : Type} : Left H := { results := [], args := [] }

/-- 'tenurelaw16.PatternMatches': WHATEVER THE INPUT: true; the input reads as it did. -/
def patternMatchesSpec : ChangeSpec := { name := "patternMatches", fn := fun _ => fun
  | [d1, d2, d3] => { results := [.lit (.bool true)], args := [d1, d2, d3] }
  | _ => none }
def patternMatchesRow : OpenClaim := { program := "ytlaplakaifmpeaa", sum := "16bf7a2a74864bd2577545104e34f36863dbf593ef1ebde42bfeab0b5408a68f", func := "tenure/tenurelaw16.PatternMatches", spec := "patternMatches", unfollowed := true, recurses := true, loops := true, apart := false }
def PatternMatchesSaid : Prop := patternMatchesRow.holds Try.pinned (OpenSpec.ofChange patternMatchesSpec)

/-- ITS FALSE NEIGHBOUR: 'it returns false'. Refute it at one input. -/
def patternMatchesWrong : ChangeSpec := { name := "patternMatches", fn := fun _ => fun
  | [d1, d2, d3] => { results := [.lit (.bool false)], args := [d1, d2, d3] }
  | _ => none }
def PatternMatchesWrongFalsely : Prop := patternMatchesRow.holds Try.pinned (OpenSpec.ofChange patternMatchesWrong)

/-- 'tenurelaw16.PatternFills': WHATEVER THE INPUT: true; the input reads as it did. -/
def patternFillsSpec : ChangeSpec := { name := "patternFills", fn := fun _ => fun
  | [d1, d2, d3] => { results := [.lit (.bool true)], args := [d1, d2, d3] }
  | _ => none }
def patternFillsRow : OpenClaim := { program := "ytlaplakaifmpeaa", sum := "16bf7a2a74864bd2577545104e34f36863dbf593ef1ebde42bfeab0b5408a68f", func := "tenure/tenurelaw16.PatternFills", spec := "patternFills", unfollowed := true, recurses := true, loops := true, apart := false }
def PatternFillsSaid : Prop := patternFillsRow.holds Try.pinned (OpenSpec.ofChange patternFillsSpec)

/-- ITS FALSE NEIGHBOUR: 'it returns false'. Refute it at one input. -/
def patternFillsWrong : ChangeSpec := { name := "patternFills", fn := fun _ => fun
  | [d1, d2, d3] => { results := [.lit (.bool false)], args := [d1, d2, d3] }
  | _ => none }
def PatternFillsWrongFalsely : Prop := patternFillsRow.holds Try.pinned (OpenSpec.ofChange patternFillsWrong)

/-- 'tenurelaw16.PatternTells': WHATEVER THE INPUT: true; the input reads as it did. -/
def patternTellsSpec : ChangeSpec := { name := "patternTells", fn := fun _ => fun
  | [d] => { results := [.lit (.bool true)], args := [d] }
  | _ => none }
def patternTellsRow : OpenClaim := { program := "ytlaplakaifmpeaa", sum := "16bf7a2a74864bd2577545104e34f36863dbf593ef1ebde42bfeab0b5408a68f", func := "tenure/tenurelaw16.PatternTells", spec := "patternTells", unfollowed := true, recurses := true, loops := true, apart := false }
def PatternTellsSaid : Prop := patternTellsRow.holds Try.pinned (OpenSpec.ofChange patternTellsSpec)

/-- ITS FALSE NEIGHBOUR: 'it returns false'. Refute it at one input. -/
def patternTellsWrong : ChangeSpec := { name := "patternTells", fn := fun _ => fun
  | [d] => { results := [.lit (.bool false)], args := [d] }
  | _ => none }
def PatternTellsWrongFalsely : Prop := patternTellsRow.holds Try.pinned (OpenSpec.ofChange patternTellsWrong)

/-- 'tenurelaw16.PatternBack': WHATEVER THE INPUT: true; the input reads as it did. -/
def patternBackSpec : ChangeSpec := { name := "patternBack", fn := fun _ => fun
  | [d1, d2] => { results := [.lit (.bool true)], args := [d1, d2] }
  | _ => none }
def patternBackRow : OpenClaim := { program := "ytlaplakaifmpeaa", sum := "16bf7a2a74864bd2577545104e34f36863dbf593ef1ebde42bfeab0b5408a68f", func := "tenure/tenurelaw16.PatternBack", spec := "patternBack", unfollowed := true, recurses := true, loops := true, apart := false }
def PatternBackSaid : Prop := patternBackRow.holds Try.pinned (OpenSpec.ofChange patternBackSpec)

/-- ITS FALSE NEIGHBOUR: 'it returns false'. Refute it at one input. -/
def patternBackWrong : ChangeSpec := { name := "patternBack", fn := fun _ => fun
  | [d1, d2] => { results := [.lit (.bool false)], args := [d1, d2] }
  | _ => none }
def PatternBackWrongFalsely : Prop := patternBackRow.holds Try.pinned (OpenSpec.ofChange patternBackWrong)

/-- 'tenurelaw16.PatternBound': WHATEVER THE INPUT: true; the input reads as it did. -/
def patternBoundSpec : ChangeSpec := { name := "patternBound", fn := fun _ => fun
  | [d1, d2] => { results := [.lit (.bool true)], args := [d1, d2] }
  | _ => none }
def patternBoundRow : OpenClaim := { program := "ytlaplakaifmpeaa", sum := "16bf7a2a74864bd2577545104e34f36863dbf593ef1ebde42bfeab0b5408a68f", func := "tenure/tenurelaw16.PatternBound", spec := "patternBound", unfollowed := true, recurses := true, loops := true, apart := false }
def PatternBoundSaid : Prop := patternBoundRow.holds Try.pinned (OpenSpec.ofChange patternBoundSpec)

/-- ITS FALSE NEIGHBOUR: 'it returns false'. Refute it at one input. -/
def patternBoundWrong : ChangeSpec := { name := "patternBound", fn := fun _ => fun
  | [d1, d2] => { results := [.lit (.bool false)], args := [d1, d2] }
  | _ => none }
def PatternBoundWrongFalsely : Prop := patternBoundRow.holds Try.pinned (OpenSpec.ofChange patternBoundWrong)

/-- 'tenurelaw16.PatternKnown': WHATEVER THE INPUT: true; the input reads as it did. -/
def patternKnownSpec : ChangeSpec := { name := "patternKnown", fn := fun _ => fun
  | [] => { results := [.lit (.bool true)], args := [] }
  | _ => none }
def patternKnownRow : OpenClaim := { program := "ytlaplakaifmpeaa", sum := "16bf7a2a74864bd2577545104e34f36863dbf593ef1ebde42bfeab0b5408a68f", func := "tenure/tenurelaw16.PatternKnown", spec := "patternKnown", unfollowed := true, recurses := true, apart := false }
def PatternKnownSaid : Prop := patternKnownRow.holds Try.pinned (OpenSpec.ofChange patternKnownSpec)

/-- ITS FALSE NEIGHBOUR: 'it returns false'. Refute it at one input. -/
def patternKnownWrong : ChangeSpec := { name := "patternKnown", fn := fun _ => fun
  | [] => { results := [.lit (.bool false)], args := [] }
  | _ => none }
def PatternKnownWrongFalsely : Prop := patternKnownRow.holds Try.pinned (OpenSpec.ofChange patternKnownWrong)

/- THE SECOND FORM. 'bulk': how many values and letters a reading holds, each counted each time it is reached (what is shared counts as often as it is met; a slice's spare places count too). A statement '..UptoSaid' is the law's where the arguments, and the package variables that the reading takes, are together of bulk at most 1048576: NARROWER than '..Said'. Prove '..Said' where nothing that the law and all that it calls make is longer than what came in: it says more and counts as full. Else prove '..UptoSaid'. A law counts once. -/
mutual
def uptoBulk {H : Type} : DataW H → Nat
  | .lit (.string bytes) => bytes.length + 1
  | .lit _ => 1
  | .nil => 1
  | .ptr d => uptoBulk d + 1
  | .slice elems spare => uptoBulkAll elems + uptoBulkAll spare + 1
  | .agg parts => uptoBulkAll parts + 1
  | .iface _ d => uptoBulk d + 1
  | .map entries => uptoBulkEntries entries + 1
  | .held _ => 1
def uptoBulkAll {H : Type} : List (DataW H) → Nat
  | [] => 0
  | d :: r => uptoBulk d + uptoBulkAll r
def uptoBulkEntries {H : Type} : List (Lit × DataW H) → Nat
  | [] => 0
  | x :: r => uptoBulkEntry x + uptoBulkEntries r
def uptoBulkEntry {H : Type} : Lit × DataW H → Nat
  | (.string bytes, d) => bytes.length + uptoBulk d + 1
  | (_, d) => uptoBulk d + 1
 end
def uptoSmall : (H : Type) → List (DataW H) → Bool := fun _ ds => decide (uptoBulkAll ds ≤ 1048576)
def OpenSpec.upto (s : _root_.Go.ChangeSpec) : _root_.Go.OpenSpec := { _root_.Go.OpenSpec.ofChange s with cond := some uptoSmall }

/-- 'tenurelaw16.PatternMatches', WHERE WHAT IT READS IS OF BULK AT MOST 1048576: true; the input reads as it did. -/
def patternMatchesUptoRow : OpenClaim := { program := "ytlaplakaifmpeaa", sum := "16bf7a2a74864bd2577545104e34f36863dbf593ef1ebde42bfeab0b5408a68f", func := "tenure/tenurelaw16.PatternMatches", spec := "patternMatches", unfollowed := true, recurses := true, loops := true, apart := false, narrowed := true }
def PatternMatchesUptoSaid : Prop := patternMatchesUptoRow.holds Try.pinned (OpenSpec.upto patternMatchesSpec)

/-- 'tenurelaw16.PatternFills', WHERE WHAT IT READS IS OF BULK AT MOST 1048576: true; the input reads as it did. -/
def patternFillsUptoRow : OpenClaim := { program := "ytlaplakaifmpeaa", sum := "16bf7a2a74864bd2577545104e34f36863dbf593ef1ebde42bfeab0b5408a68f", func := "tenure/tenurelaw16.PatternFills", spec := "patternFills", unfollowed := true, recurses := true, loops := true, apart := false, narrowed := true }
def PatternFillsUptoSaid : Prop := patternFillsUptoRow.holds Try.pinned (OpenSpec.upto patternFillsSpec)

/-- 'tenurelaw16.PatternTells', WHERE WHAT IT READS IS OF BULK AT MOST 1048576: true; the input reads as it did. -/
def patternTellsUptoRow : OpenClaim := { program := "ytlaplakaifmpeaa", sum := "16bf7a2a74864bd2577545104e34f36863dbf593ef1ebde42bfeab0b5408a68f", func := "tenure/tenurelaw16.PatternTells", spec := "patternTells", unfollowed := true, recurses := true, loops := true, apart := false, narrowed := true }
def PatternTellsUptoSaid : Prop := patternTellsUptoRow.holds Try.pinned (OpenSpec.upto patternTellsSpec)

/-- 'tenurelaw16.PatternBack', WHERE WHAT IT READS IS OF BULK AT MOST 1048576: true; the input reads as it did. -/
def patternBackUptoRow : OpenClaim := { program := "ytlaplakaifmpeaa", sum := "16bf7a2a74864bd2577545104e34f36863dbf593ef1ebde42bfeab0b5408a68f", func := "tenure/tenurelaw16.PatternBack", spec := "patternBack", unfollowed := true, recurses := true, loops := true, apart := false, narrowed := true }
def PatternBackUptoSaid : Prop := patternBackUptoRow.holds Try.pinned (OpenSpec.upto patternBackSpec)

/-- 'tenurelaw16.PatternBound', WHERE WHAT IT READS IS OF BULK AT MOST 1048576: true; the input reads as it did. -/
def patternBoundUptoRow : OpenClaim := { program := "ytlaplakaifmpeaa", sum := "16bf7a2a74864bd2577545104e34f36863dbf593ef1ebde42bfeab0b5408a68f", func := "tenure/tenurelaw16.PatternBound", spec := "patternBound", unfollowed := true, recurses := true, loops := true, apart := false, narrowed := true }
def PatternBoundUptoSaid : Prop := patternBoundUptoRow.holds Try.pinned (OpenSpec.upto patternBoundSpec)

/-- 'tenurelaw16.PatternKnown', WHERE WHAT IT READS IS OF BULK AT MOST 1048576: true; the input reads as it did. -/
def patternKnownUptoRow : OpenClaim := { program := "ytlaplakaifmpeaa", sum := "16bf7a2a74864bd2577545104e34f36863dbf593ef1ebde42bfeab0b5408a68f", func := "tenure/tenurelaw16.PatternKnown", spec := "patternKnown", unfollowed := true, recurses := true, apart := false, narrowed := true }
def PatternKnownUptoSaid : Prop := patternKnownUptoRow.holds Try.pinned (OpenSpec.upto patternKnownSpec)

end Rows
end Go.Proofs.Ytlaplakaifmpeaa
