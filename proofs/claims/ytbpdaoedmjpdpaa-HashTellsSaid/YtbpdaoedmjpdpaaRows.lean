/-
  NARROWER THAN 'FOR EVERY INPUT', by the rows' own cells (each row's printed sentence says how): HashTells: loops · HashSame: loops.
  DERIVED. THE GIVEN ROWS OF THIS SEAT. 5 by the template 'for every input the law returns true; each argument reads behind the call as it read before'; 0 by the template 'total and deterministic' (their statements: YtbpdaoedmjpdpaaTotals.lean).
  GIVEN WITH THE SEED: the statements are not yours to turn. If you find one false, say at which input.
  Laid BY PROGRAM, IN A SANDBOX (cutbox-rows.mjs): the forced cells as the released guide's own fill.sh prints them over the translation 50adad61ac749fb9… (all of the seat's roots in one cut). By AI agents, Wed Nov 11 2026. No macro, syntax, notation, axiom, sorry.
-/
import Derived.Test.YtbpdaoedmjpdpaaChecked
import GoSem.Claim
import GoSem.ClaimJoined
import GoSem.ClaimMapViews
import Derived.JoinedTies
import Derived.KernelRfl
namespace Go.Proofs.Ytbpdaoedmjpdpaa
/- THE CELL 'sum', in the pinned program and in every row, IS THE sha256 OF THE DUMP (.gsa) THAT YtbpdaoedmjpdpaaProg.lean LOADS. Nothing in Lean hashes anything: it is a label: what it is worth is what the hold of that sum in a sandbox is worth. -/
noncomputable def Try.pinned : Pinned := { name := "ytbpdaoedmjpdpaa", sum := "50adad61ac749fb9b4eeae9b1288b779824cdfd72570acc5bc3847b317129a86", checked := Try.checked }
namespace Rows
def none {H : Type} : Left H := { results := [], args := [] }

/-- 'tenurelaw04.HashMixes': WHATEVER THE INPUT: true; the input reads as it did. -/
def hashMixesSpec : ChangeSpec := { name := "hashMixes", fn := fun _ => fun
  | [d1, d2, d3] => { results := [.lit (.bool true)], args := [d1, d2, d3] }
  | _ => none }
def hashMixesRow : OpenClaim := { program := "ytbpdaoedmjpdpaa", sum := "50adad61ac749fb9b4eeae9b1288b779824cdfd72570acc5bc3847b317129a86", func := "tenure/tenurelaw04.HashMixes", spec := "hashMixes", unfollowed := true, recurses := true, apart := false }
def HashMixesSaid : Prop := hashMixesRow.holds Try.pinned (OpenSpec.ofChange hashMixesSpec)

/-- ITS FALSE NEIGHBOUR: 'it returns false'. Refute it at one input. -/
def hashMixesWrong : ChangeSpec := { name := "hashMixes", fn := fun _ => fun
  | [d1, d2, d3] => { results := [.lit (.bool false)], args := [d1, d2, d3] }
  | _ => none }
def HashMixesWrongFalsely : Prop := hashMixesRow.holds Try.pinned (OpenSpec.ofChange hashMixesWrong)

/-- 'tenurelaw04.HashKnown': WHATEVER THE INPUT: true; the input reads as it did. -/
def hashKnownSpec : ChangeSpec := { name := "hashKnown", fn := fun _ => fun
  | [] => { results := [.lit (.bool true)], args := [] }
  | _ => none }
def hashKnownRow : OpenClaim := { program := "ytbpdaoedmjpdpaa", sum := "50adad61ac749fb9b4eeae9b1288b779824cdfd72570acc5bc3847b317129a86", func := "tenure/tenurelaw04.HashKnown", spec := "hashKnown", unfollowed := true, recurses := true, apart := false }
def HashKnownSaid : Prop := hashKnownRow.holds Try.pinned (OpenSpec.ofChange hashKnownSpec)

/-- ITS FALSE NEIGHBOUR: 'it returns false'. Refute it at one input. -/
def hashKnownWrong : ChangeSpec := { name := "hashKnown", fn := fun _ => fun
  | [] => { results := [.lit (.bool false)], args := [] }
  | _ => none }
def HashKnownWrongFalsely : Prop := hashKnownRow.holds Try.pinned (OpenSpec.ofChange hashKnownWrong)

/-- 'tenurelaw04.HashSplits': WHATEVER THE INPUT: true; the input reads as it did. -/
def hashSplitsSpec : ChangeSpec := { name := "hashSplits", fn := fun _ => fun
  | [d1, d2, d3] => { results := [.lit (.bool true)], args := [d1, d2, d3] }
  | _ => none }
def hashSplitsRow : OpenClaim := { program := "ytbpdaoedmjpdpaa", sum := "50adad61ac749fb9b4eeae9b1288b779824cdfd72570acc5bc3847b317129a86", func := "tenure/tenurelaw04.HashSplits", spec := "hashSplits", unfollowed := true, recurses := true, apart := false }
def HashSplitsSaid : Prop := hashSplitsRow.holds Try.pinned (OpenSpec.ofChange hashSplitsSpec)

/-- ITS FALSE NEIGHBOUR: 'it returns false'. Refute it at one input. -/
def hashSplitsWrong : ChangeSpec := { name := "hashSplits", fn := fun _ => fun
  | [d1, d2, d3] => { results := [.lit (.bool false)], args := [d1, d2, d3] }
  | _ => none }
def HashSplitsWrongFalsely : Prop := hashSplitsRow.holds Try.pinned (OpenSpec.ofChange hashSplitsWrong)

/-- 'tenurelaw04.HashTells': WHATEVER THE INPUT: true; the input reads as it did. -/
def hashTellsSpec : ChangeSpec := { name := "hashTells", fn := fun _ => fun
  | [d] => { results := [.lit (.bool true)], args := [d] }
  | _ => none }
def hashTellsRow : OpenClaim := { program := "ytbpdaoedmjpdpaa", sum := "50adad61ac749fb9b4eeae9b1288b779824cdfd72570acc5bc3847b317129a86", func := "tenure/tenurelaw04.HashTells", spec := "hashTells", unfollowed := true, recurses := true, loops := true, apart := false }
def HashTellsSaid : Prop := hashTellsRow.holds Try.pinned (OpenSpec.ofChange hashTellsSpec)

/-- ITS FALSE NEIGHBOUR: 'it returns false'. Refute it at one input. -/
def hashTellsWrong : ChangeSpec := { name := "hashTells", fn := fun _ => fun
  | [d] => { results := [.lit (.bool false)], args := [d] }
  | _ => none }
def HashTellsWrongFalsely : Prop := hashTellsRow.holds Try.pinned (OpenSpec.ofChange hashTellsWrong)

/-- 'tenurelaw04.HashSame': WHATEVER THE INPUT: true; the input reads as it did. -/
def hashSameSpec : ChangeSpec := { name := "hashSame", fn := fun _ => fun
  | [d1, d2] => { results := [.lit (.bool true)], args := [d1, d2] }
  | _ => none }
def hashSameRow : OpenClaim := { program := "ytbpdaoedmjpdpaa", sum := "50adad61ac749fb9b4eeae9b1288b779824cdfd72570acc5bc3847b317129a86", func := "tenure/tenurelaw04.HashSame", spec := "hashSame", unfollowed := true, recurses := true, loops := true, apart := false }
def HashSameSaid : Prop := hashSameRow.holds Try.pinned (OpenSpec.ofChange hashSameSpec)

/-- ITS FALSE NEIGHBOUR: 'it returns false'. Refute it at one input. -/
def hashSameWrong : ChangeSpec := { name := "hashSame", fn := fun _ => fun
  | [d1, d2] => { results := [.lit (.bool false)], args := [d1, d2] }
  | _ => none }
def HashSameWrongFalsely : Prop := hashSameRow.holds Try.pinned (OpenSpec.ofChange hashSameWrong)

/- THE SECOND FORM. 'bulk': how many values and letters a reading holds, each counted each time it is reached (what is shared counts as often as it is met; a slice's spare places count too). A statement '..UptoSaid' is the law's where the arguments, and the package variables that the reading takes, are together of bulk at most 1048576: NARROWER than '..Said'. Prove '..Said' where nothing that the law and all that it calls make is longer than what came in: it says more and counts as full. Else prove '..UptoSaid'. A law counts once. -/
mutual
def uptoBulk {H : Type} : DataW H → Nat
  | .lit (.string bytes) => bytes.length + 1
  | .lit _ => 1
  | .nil => 1
  | .ptr d => uptoBulk d + 1
  | .slice elems spare => uptoBulkAll elems + uptoBulkAll spare + 1
  | .agg parts => uptoBulkAll parts + 1
  | .iface _ d => uptoBulk d + 1
  | .map entries => uptoBulkEntries entries + 1
  | .held _ => 1
def uptoBulkAll {H : Type} : List (DataW H) → Nat
  | [] => 0
  | d :: r => uptoBulk d + uptoBulkAll r
def uptoBulkEntries {H : Type} : List (Lit × DataW H) → Nat
  | [] => 0
  | x :: r => uptoBulkEntry x + uptoBulkEntries r
def uptoBulkEntry {H : Type} : Lit × DataW H → Nat
  | (.string bytes, d) => bytes.length + uptoBulk d + 1
  | (_, d) => uptoBulk d + 1
 end
def uptoSmall : (H : Type) → List (DataW H) → Bool := fun _ ds => decide (uptoBulkAll ds ≤ 1048576)
def OpenSpec.upto (s : _root_.Go.ChangeSpec) : _root_.Go.OpenSpec := { _root_.Go.OpenSpec.ofChange s with cond := some uptoSmall }

/-- 'tenurelaw04.HashMixes', WHERE WHAT IT READS IS OF BULK AT MOST 1048576: true; the input reads as it did. -/
def hashMixesUptoRow : OpenClaim := { program := "ytbpdaoedmjpdpaa", sum := "50adad61ac749fb9b4eeae9b1288b779824cdfd72570acc5bc3847b317129a86", func := "tenure/tenurelaw04.HashMixes", spec := "hashMixes", unfollowed := true, recurses := true, apart := false, narrowed := true }
def HashMixesUptoSaid : Prop := hashMixesUptoRow.holds Try.pinned (OpenSpec.upto hashMixesSpec)

/-- 'tenurelaw04.HashKnown', WHERE WHAT IT READS IS OF BULK AT MOST 1048576: true; the input reads as it did. -/
def hashKnownUptoRow : OpenClaim := { program := "ytbpdaoedmjpdpaa", sum := "50adad61ac749fb9b4eeae9b1288b779824cdfd72570acc5bc3847b317129a86", func := "tenure/tenurelaw04.HashKnown", spec := "hashKnown", unfollowed := true, recurses := true, apart := false, narrowed := true }
def HashKnownUptoSaid : Prop := hashKnownUptoRow.holds Try.pinned (OpenSpec.upto hashKnownSpec)

/-- 'tenurelaw04.HashSplits', WHERE WHAT IT READS IS OF BULK AT MOST 1048576: true; the input reads as it did. -/
def hashSplitsUptoRow : OpenClaim := { program := "ytbpdaoedmjpdpaa", sum := "50adad61ac749fb9b4eeae9b1288b779824cdfd72570acc5bc3847b317129a86", func := "tenure/tenurelaw04.HashSplits", spec := "hashSplits", unfollowed := true, recurses := true, apart := false, narrowed := true }
def HashSplitsUptoSaid : Prop := hashSplitsUptoRow.holds Try.pinned (OpenSpec.upto hashSplitsSpec)

/-- 'tenurelaw04.HashTells', WHERE WHAT IT READS IS OF BULK AT MOST 1048576: true; the input reads as it did. -/
def hashTellsUptoRow : OpenClaim := { program := "ytbpdaoedmjpdpaa", sum := "50adad61ac749fb9b4eeae9b1288b779824cdfd72570acc5bc3847b317129a86", func := "tenure/tenurelaw04.HashTells", spec := "hashTells", unfollowed := true, recurses := true, loops := true, apart := false, narrowed := true }
def HashTellsUptoSaid : Prop := hashTellsUptoRow.holds Try.pinned (OpenSpec.upto hashTellsSpec)

/-- 'tenurelaw04.HashSame', WHERE WHAT IT READS IS OF BULK AT MOST 1048576: true; the input reads as it did. -/
def hashSameUptoRow : OpenClaim := { program := "ytbpdaoedmjpdpaa", sum := "50adad61ac749fb9b4eeae9b1288b779824cdfd72570acc5bc3847b317129a86", func := "tenure/tenurelaw04.HashSame", spec := "hashSame", unfollowed := true, recurses := true, loops := true, apart := false, narrowed := true }
def HashSameUptoSaid : Prop := hashSameUptoRow.holds Try.pinned (OpenSpec.upto hashSameSpec)

end Rows
end Go.Proofs.Ytbpdaoedmjpdpaa
