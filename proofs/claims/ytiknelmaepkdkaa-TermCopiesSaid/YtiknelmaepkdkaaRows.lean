/-
  NARROWER THAN 'FOR EVERY INPUT', by the rows' own cells (each row's printed sentence says how): TermMakes: loops · TermChecks: loops · TermLists: loops · TermCopies: loops.
  DERIVED. THE GIVEN ROWS OF THIS SEAT. 6 by the template 'for every input the law returns true; each argument reads behind the call as it read before'; 0 by the template 'total and deterministic' (their statements: YtiknelmaepkdkaaTotals.lean).
  GIVEN WITH THE SEED: the statements are not yours to turn. If you find one false, say at which input.
  Laid BY PROGRAM, IN A SANDBOX (cutbox-rows.mjs): the forced cells as the released guide's own fill.sh prints them over the translation aac5fa30dbe18c20… (all of the seat's roots in one cut). By AI agents, Wed Nov 11 2026. No macro, syntax, notation, axiom, sorry.
-/
import Derived.Test.YtiknelmaepkdkaaChecked
import GoSem.Claim
import GoSem.ClaimJoined
import GoSem.ClaimMapViews
import Derived.JoinedTies
import Derived.KernelRfl
namespace Go.Proofs.Ytiknelmaepkdkaa
/- THE CELL 'sum', in the pinned program and in every row, IS THE sha256 OF THE DUMP (.gsa) THAT YtiknelmaepkdkaaProg.lean LOADS. Nothing in Lean hashes anything: it is a label: what it is worth is what the hold of that sum in a sandbox is worth. -/
noncomputable def Try.pinned : Pinned := { name := "ytiknelmaepkdkaa", sum := "aac5fa30dbe18c20d36207755cd6898b855a3ddb34d2e60c04dfa27f6cc755b8", checked := Try.checked }
namespace Rows
def none {H : Type} : Left H := { results := [], args := [] }

/-- 'tenurelaw02.TermMakes': WHATEVER THE INPUT: true; the input reads as it did. -/
def termMakesSpec : ChangeSpec := { name := "termMakes", fn := fun _ => fun
  | [d1, d2, d3, d4] => { results := [.lit (.bool true)], args := [d1, d2, d3, d4] }
  | _ => none }
def termMakesRow : OpenClaim := { program := "ytiknelmaepkdkaa", sum := "aac5fa30dbe18c20d36207755cd6898b855a3ddb34d2e60c04dfa27f6cc755b8", func := "tenure/tenurelaw02.TermMakes", spec := "termMakes", unfollowed := true, recurses := true, loops := true, apart := false }
def TermMakesSaid : Prop := termMakesRow.holds Try.pinned (OpenSpec.ofChange termMakesSpec)

/-- ITS FALSE NEIGHBOUR: 'it returns false'. Refute it at one input. -/
def termMakesWrong : ChangeSpec := { name := "termMakes", fn := fun _ => fun
  | [d1, d2, d3, d4] => { results := [.lit (.bool false)], args := [d1, d2, d3, d4] }
  | _ => none }
def TermMakesWrongFalsely : Prop := termMakesRow.holds Try.pinned (OpenSpec.ofChange termMakesWrong)

/-- 'tenurelaw02.TermLong': WHATEVER THE INPUT: true; the input reads as it did. -/
def termLongSpec : ChangeSpec := { name := "termLong", fn := fun _ => fun
  | [d1, d2] => { results := [.lit (.bool true)], args := [d1, d2] }
  | _ => none }
def termLongRow : OpenClaim := { program := "ytiknelmaepkdkaa", sum := "aac5fa30dbe18c20d36207755cd6898b855a3ddb34d2e60c04dfa27f6cc755b8", func := "tenure/tenurelaw02.TermLong", spec := "termLong", unfollowed := true, recurses := true, apart := false }
def TermLongSaid : Prop := termLongRow.holds Try.pinned (OpenSpec.ofChange termLongSpec)

/-- ITS FALSE NEIGHBOUR: 'it returns false'. Refute it at one input. -/
def termLongWrong : ChangeSpec := { name := "termLong", fn := fun _ => fun
  | [d1, d2] => { results := [.lit (.bool false)], args := [d1, d2] }
  | _ => none }
def TermLongWrongFalsely : Prop := termLongRow.holds Try.pinned (OpenSpec.ofChange termLongWrong)

/-- 'tenurelaw02.TermChecks': WHATEVER THE INPUT: true; the input reads as it did. -/
def termChecksSpec : ChangeSpec := { name := "termChecks", fn := fun _ => fun
  | [d1, d2] => { results := [.lit (.bool true)], args := [d1, d2] }
  | _ => none }
def termChecksRow : OpenClaim := { program := "ytiknelmaepkdkaa", sum := "aac5fa30dbe18c20d36207755cd6898b855a3ddb34d2e60c04dfa27f6cc755b8", func := "tenure/tenurelaw02.TermChecks", spec := "termChecks", unfollowed := true, recurses := true, loops := true, apart := false }
def TermChecksSaid : Prop := termChecksRow.holds Try.pinned (OpenSpec.ofChange termChecksSpec)

/-- ITS FALSE NEIGHBOUR: 'it returns false'. Refute it at one input. -/
def termChecksWrong : ChangeSpec := { name := "termChecks", fn := fun _ => fun
  | [d1, d2] => { results := [.lit (.bool false)], args := [d1, d2] }
  | _ => none }
def TermChecksWrongFalsely : Prop := termChecksRow.holds Try.pinned (OpenSpec.ofChange termChecksWrong)

/-- 'tenurelaw02.TermKnown': WHATEVER THE INPUT: true; the input reads as it did. -/
def termKnownSpec : ChangeSpec := { name := "termKnown", fn := fun _ => fun
  | [] => { results := [.lit (.bool true)], args := [] }
  | _ => none }
def termKnownRow : OpenClaim := { program := "ytiknelmaepkdkaa", sum := "aac5fa30dbe18c20d36207755cd6898b855a3ddb34d2e60c04dfa27f6cc755b8", func := "tenure/tenurelaw02.TermKnown", spec := "termKnown", unfollowed := true, recurses := true, apart := false }
def TermKnownSaid : Prop := termKnownRow.holds Try.pinned (OpenSpec.ofChange termKnownSpec)

/-- ITS FALSE NEIGHBOUR: 'it returns false'. Refute it at one input. -/
def termKnownWrong : ChangeSpec := { name := "termKnown", fn := fun _ => fun
  | [] => { results := [.lit (.bool false)], args := [] }
  | _ => none }
def TermKnownWrongFalsely : Prop := termKnownRow.holds Try.pinned (OpenSpec.ofChange termKnownWrong)

/-- 'tenurelaw02.TermLists': WHATEVER THE INPUT: true; the input reads as it did. -/
def termListsSpec : ChangeSpec := { name := "termLists", fn := fun _ => fun
  | [d] => { results := [.lit (.bool true)], args := [d] }
  | _ => none }
def termListsRow : OpenClaim := { program := "ytiknelmaepkdkaa", sum := "aac5fa30dbe18c20d36207755cd6898b855a3ddb34d2e60c04dfa27f6cc755b8", func := "tenure/tenurelaw02.TermLists", spec := "termLists", unfollowed := true, recurses := true, loops := true, apart := false }
def TermListsSaid : Prop := termListsRow.holds Try.pinned (OpenSpec.ofChange termListsSpec)

/-- ITS FALSE NEIGHBOUR: 'it returns false'. Refute it at one input. -/
def termListsWrong : ChangeSpec := { name := "termLists", fn := fun _ => fun
  | [d] => { results := [.lit (.bool false)], args := [d] }
  | _ => none }
def TermListsWrongFalsely : Prop := termListsRow.holds Try.pinned (OpenSpec.ofChange termListsWrong)

/-- 'tenurelaw02.TermCopies': WHATEVER THE INPUT: true; the input reads as it did. -/
def termCopiesSpec : ChangeSpec := { name := "termCopies", fn := fun _ => fun
  | [d1, d2] => { results := [.lit (.bool true)], args := [d1, d2] }
  | _ => none }
def termCopiesRow : OpenClaim := { program := "ytiknelmaepkdkaa", sum := "aac5fa30dbe18c20d36207755cd6898b855a3ddb34d2e60c04dfa27f6cc755b8", func := "tenure/tenurelaw02.TermCopies", spec := "termCopies", unfollowed := true, recurses := true, loops := true, apart := false }
def TermCopiesSaid : Prop := termCopiesRow.holds Try.pinned (OpenSpec.ofChange termCopiesSpec)

/-- ITS FALSE NEIGHBOUR: 'it returns false'. Refute it at one input. -/
def termCopiesWrong : ChangeSpec := { name := "termCopies", fn := fun _ => fun
  | [d1, d2] => { results := [.lit (.bool false)], args := [d1, d2] }
  | _ => none }
def TermCopiesWrongFalsely : Prop := termCopiesRow.holds Try.pinned (OpenSpec.ofChange termCopiesWrong)

/- THE SECOND FORM. 'bulk': how many values and letters a reading holds, each counted each time it is reached (what is shared counts as often as it is met; a slice's spare places count too). A statement '..UptoSaid' is the law's where the arguments, and the package variables that the reading takes, are together of bulk at most 1048576: NARROWER than '..Said'. Prove '..Said' where nothing that the law and all that it calls make is longer than what came in: it says more and counts as full. Else prove '..UptoSaid'. A law counts once. -/
mutual
def uptoBulk {H : Type} : DataW H → Nat
  | .lit (.string bytes) => bytes.length + 1
  | .lit _ => 1
  | .nil => 1
  | .ptr d => uptoBulk d + 1
  | .slice elems spare => uptoBulkAll elems + uptoBulkAll spare + 1
  | .agg parts => uptoBulkAll parts + 1
  | .iface _ d => uptoBulk d + 1
  | .map entries => uptoBulkEntries entries + 1
  | .held _ => 1
def uptoBulkAll {H : Type} : List (DataW H) → Nat
  | [] => 0
  | d :: r => uptoBulk d + uptoBulkAll r
def uptoBulkEntries {H : Type} : List (Lit × DataW H) → Nat
  | [] => 0
  | x :: r => uptoBulkEntry x + uptoBulkEntries r
def uptoBulkEntry {H : Type} : Lit × DataW H → Nat
  | (.string bytes, d) => bytes.length + uptoBulk d + 1
  | (_, d) => uptoBulk d + 1
 end
def uptoSmall : (H : Type) → List (DataW H) → Bool := fun _ ds => decide (uptoBulkAll ds ≤ 1048576)
def OpenSpec.upto (s : _root_.Go.ChangeSpec) : _root_.Go.OpenSpec := { _root_.Go.OpenSpec.ofChange s with cond := some uptoSmall }

/-- 'tenurelaw02.TermMakes', WHERE WHAT IT READS IS OF BULK AT MOST 1048576: true; the input reads as it did. -/
def termMakesUptoRow : OpenClaim := { program := "ytiknelmaepkdkaa", sum := "aac5fa30dbe18c20d36207755cd6898b855a3ddb34d2e60c04dfa27f6cc755b8", func := "tenure/tenurelaw02.TermMakes", spec := "termMakes", unfollowed := true, recurses := true, loops := true, apart := false, narrowed := true }
def TermMakesUptoSaid : Prop := termMakesUptoRow.holds Try.pinned (OpenSpec.upto termMakesSpec)

/-- 'tenurelaw02.TermLong', WHERE WHAT IT READS IS OF BULK AT MOST 1048576: true; the input reads as it did. -/
def termLongUptoRow : OpenClaim := { program := "ytiknelmaepkdkaa", sum := "aac5fa30dbe18c20d36207755cd6898b855a3ddb34d2e60c04dfa27f6cc755b8", func := "tenure/tenurelaw02.TermLong", spec := "termLong", unfollowed := true, recurses := true, apart := false, narrowed := true }
def TermLongUptoSaid : Prop := termLongUptoRow.holds Try.pinned (OpenSpec.upto termLongSpec)

/-- 'tenurelaw02.TermChecks', WHERE WHAT IT READS IS OF BULK AT MOST 1048576: true; the input reads as it did. -/
def termChecksUptoRow : OpenClaim := { program := "ytiknelmaepkdkaa", sum := "aac5fa30dbe18c20d36207755cd6898b855a3ddb34d2e60c04dfa27f6cc755b8", func := "tenure/tenurelaw02.TermChecks", spec := "termChecks", unfollowed := true, recurses := true, loops := true, apart := false, narrowed := true }
def TermChecksUptoSaid : Prop := termChecksUptoRow.holds Try.pinned (OpenSpec.upto termChecksSpec)

/-- 'tenurelaw02.TermKnown', WHERE WHAT IT READS IS OF BULK AT MOST 1048576: true; the input reads as it did. -/
def termKnownUptoRow : OpenClaim := { program := "ytiknelmaepkdkaa", sum := "aac5fa30dbe18c20d36207755cd6898b855a3ddb34d2e60c04dfa27f6cc755b8", func := "tenure/tenurelaw02.TermKnown", spec := "termKnown", unfollowed := true, recurses := true, apart := false, narrowed := true }
def TermKnownUptoSaid : Prop := termKnownUptoRow.holds Try.pinned (OpenSpec.upto termKnownSpec)

/-- 'tenurelaw02.TermLists', WHERE WHAT IT READS IS OF BULK AT MOST 1048576: true; the input reads as it did. -/
def termListsUptoRow : OpenClaim := { program := "ytiknelmaepkdkaa", sum := "aac5fa30dbe18c20d36207755cd6898b855a3ddb34d2e60c04dfa27f6cc755b8", func := "tenure/tenurelaw02.TermLists", spec := "termLists", unfollowed := true, recurses := true, loops := true, apart := false, narrowed := true }
def TermListsUptoSaid : Prop := termListsUptoRow.holds Try.pinned (OpenSpec.upto termListsSpec)

/-- 'tenurelaw02.TermCopies', WHERE WHAT IT READS IS OF BULK AT MOST 1048576: true; the input reads as it did. -/
def termCopiesUptoRow : OpenClaim := { program := "ytiknelmaepkdkaa", sum := "aac5fa30dbe18c20d36207755cd6898b855a3ddb34d2e60c04dfa27f6cc755b8", func := "tenure/tenurelaw02.TermCopies", spec := "termCopies", unfollowed := true, recurses := true, loops := true, apart := false, narrowed := true }
def TermCopiesUptoSaid : Prop := termCopiesUptoRow.holds Try.pinned (OpenSpec.upto termCopiesSpec)

end Rows
end Go.Proofs.Ytiknelmaepkdkaa
