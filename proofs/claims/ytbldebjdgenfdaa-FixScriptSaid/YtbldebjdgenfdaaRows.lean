/-
  No cell of these rows narrows 'for every input' (looked for: loops, veiled, ifaces, maps, wideKeys, modest, calm, conditions, laid).
  DERIVED. THE GIVEN ROWS OF THIS SEAT. 4 by the template 'for every input the law returns true; each argument reads behind the call as it read before'; 0 by the template 'total and deterministic' (their statements: YtbldebjdgenfdaaTotals.lean).
  GIVEN WITH THE SEED: the statements are not yours to turn. If you find one false, say at which input.
  Laid BY PROGRAM, IN A SANDBOX (cutbox-rows.mjs): the forced cells as the released guide's own fill.sh prints them over the translation b63852bb882a08c4… (all of the seat's roots in one cut). By AI agents, Wed Nov 11 2026. No macro, syntax, notation, axiom, sorry.
-/
import Derived.Test.YtbldebjdgenfdaaChecked
import GoSem.Claim
import GoSem.ClaimJoined
import GoSem.ClaimMapViews
import Derived.JoinedTies
import Derived.KernelRfl
namespace Go.Proofs.Ytbldebjdgenfdaa
/- THE CELL 'sum', in the pinned program and in every row, IS THE sha256 OF THE DUMP (.gsa) THAT YtbldebjdgenfdaaProg.lean LOADS. Nothing in Lean hashes anything: it is a label: what it is worth is what the hold of that sum in a sandbox is worth. -/
noncomputable def Try.pinned : Pinned := { name := "ytbldebjdgenfdaa", sum := "b63852bb882a08c49092851dcab17385b1572852d7ffb8dd3f7d870283091e43", checked := Try.checked }
namespace Rows
def none {H : Type} : Left H := { results := [], args := [] }

/-- 'tenurelaw12.FixScript': WHATEVER THE INPUT: true; the input reads as it did. -/
def fixScriptSpec : ChangeSpec := { name := "fixScript", fn := fun _ => fun
  | [d1, d2] => { results := [.lit (.bool true)], args := [d1, d2] }
  | _ => none }
def fixScriptRow : OpenClaim := { program := "ytbldebjdgenfdaa", sum := "b63852bb882a08c49092851dcab17385b1572852d7ffb8dd3f7d870283091e43", func := "tenure/tenurelaw12.FixScript", spec := "fixScript", unfollowed := true, recurses := true, apart := false }
def FixScriptSaid : Prop := fixScriptRow.holds Try.pinned (OpenSpec.ofChange fixScriptSpec)

/-- ITS FALSE NEIGHBOUR: 'it returns false'. Refute it at one input. -/
def fixScriptWrong : ChangeSpec := { name := "fixScript", fn := fun _ => fun
  | [d1, d2] => { results := [.lit (.bool false)], args := [d1, d2] }
  | _ => none }
def FixScriptWrongFalsely : Prop := fixScriptRow.holds Try.pinned (OpenSpec.ofChange fixScriptWrong)

/-- 'tenurelaw12.FixNone': WHATEVER THE INPUT: true; the input reads as it did. -/
def fixNoneSpec : ChangeSpec := { name := "fixNone", fn := fun _ => fun
  | [d] => { results := [.lit (.bool true)], args := [d] }
  | _ => none }
def fixNoneRow : OpenClaim := { program := "ytbldebjdgenfdaa", sum := "b63852bb882a08c49092851dcab17385b1572852d7ffb8dd3f7d870283091e43", func := "tenure/tenurelaw12.FixNone", spec := "fixNone", unfollowed := true, recurses := true, apart := false }
def FixNoneSaid : Prop := fixNoneRow.holds Try.pinned (OpenSpec.ofChange fixNoneSpec)

/-- ITS FALSE NEIGHBOUR: 'it returns false'. Refute it at one input. -/
def fixNoneWrong : ChangeSpec := { name := "fixNone", fn := fun _ => fun
  | [d] => { results := [.lit (.bool false)], args := [d] }
  | _ => none }
def FixNoneWrongFalsely : Prop := fixNoneRow.holds Try.pinned (OpenSpec.ofChange fixNoneWrong)

/-- 'tenurelaw12.FixKnown': WHATEVER THE INPUT: true; the input reads as it did. -/
def fixKnownSpec : ChangeSpec := { name := "fixKnown", fn := fun _ => fun
  | [] => { results := [.lit (.bool true)], args := [] }
  | _ => none }
def fixKnownRow : OpenClaim := { program := "ytbldebjdgenfdaa", sum := "b63852bb882a08c49092851dcab17385b1572852d7ffb8dd3f7d870283091e43", func := "tenure/tenurelaw12.FixKnown", spec := "fixKnown", unfollowed := true, recurses := true, apart := false }
def FixKnownSaid : Prop := fixKnownRow.holds Try.pinned (OpenSpec.ofChange fixKnownSpec)

/-- ITS FALSE NEIGHBOUR: 'it returns false'. Refute it at one input. -/
def fixKnownWrong : ChangeSpec := { name := "fixKnown", fn := fun _ => fun
  | [] => { results := [.lit (.bool false)], args := [] }
  | _ => none }
def FixKnownWrongFalsely : Prop := fixKnownRow.holds Try.pinned (OpenSpec.ofChange fixKnownWrong)

/-- 'tenurelaw12.FixSums': WHATEVER THE INPUT: true; the input reads as it did. -/
def fixSumsSpec : ChangeSpec := { name := "fixSums", fn := fun _ => fun
  | [d] => { results := [.lit (.bool true)], args := [d] }
  | _ => none }
def fixSumsRow : OpenClaim := { program := "ytbldebjdgenfdaa", sum := "b63852bb882a08c49092851dcab17385b1572852d7ffb8dd3f7d870283091e43", func := "tenure/tenurelaw12.FixSums", spec := "fixSums", unfollowed := true, recurses := true, apart := false }
def FixSumsSaid : Prop := fixSumsRow.holds Try.pinned (OpenSpec.ofChange fixSumsSpec)

/-- ITS FALSE NEIGHBOUR: 'it returns false'. Refute it at one input. -/
def fixSumsWrong : ChangeSpec := { name := "fixSums", fn := fun _ => fun
  | [d] => { results := [.lit (.bool false)], args := [d] }
  | _ => none }
def FixSumsWrongFalsely : Prop := fixSumsRow.holds Try.pinned (OpenSpec.ofChange fixSumsWrong)

/- THE SECOND FORM. 'bulk': how many values and letters a reading holds, each counted each time it is reached (what is shared counts as often as it is met; a slice's spare places count too). A statement '..UptoSaid' is the law's where the arguments, and the package variables that the reading takes, are together of bulk at most 1048576: NARROWER than '..Said'. Prove '..Said' where nothing that the law and all that it calls make is longer than what came in: it says more and counts as full. Else prove '..UptoSaid'. A law counts once. -/
mutual
def uptoBulk {H : Type} : DataW H → Nat
  | .lit (.string bytes) => bytes.length + 1
  | .lit _ => 1
  | .nil => 1
  | .ptr d => uptoBulk d + 1
  | .slice elems spare => uptoBulkAll elems + uptoBulkAll spare + 1
  | .agg parts => uptoBulkAll parts + 1
  | .iface _ d => uptoBulk d + 1
  | .map entries => uptoBulkEntries entries + 1
  | .held _ => 1
def uptoBulkAll {H : Type} : List (DataW H) → Nat
  | [] => 0
  | d :: r => uptoBulk d + uptoBulkAll r
def uptoBulkEntries {H : Type} : List (Lit × DataW H) → Nat
  | [] => 0
  | x :: r => uptoBulkEntry x + uptoBulkEntries r
def uptoBulkEntry {H : Type} : Lit × DataW H → Nat
  | (.string bytes, d) => bytes.length + uptoBulk d + 1
  | (_, d) => uptoBulk d + 1
 end
def uptoSmall : (H : Type) → List (DataW H) → Bool := fun _ ds => decide (uptoBulkAll ds ≤ 1048576)
def OpenSpec.upto (s : _root_.Go.ChangeSpec) : _root_.Go.OpenSpec := { _root_.Go.OpenSpec.ofChange s with cond := some uptoSmall }

/-- 'tenurelaw12.FixScript', WHERE WHAT IT READS IS OF BULK AT MOST 1048576: true; the input reads as it did. -/
def fixScriptUptoRow : OpenClaim := { program := "ytbldebjdgenfdaa", sum := "b63852bb882a08c49092851dcab17385b1572852d7ffb8dd3f7d870283091e43", func := "tenure/tenurelaw12.FixScript", spec := "fixScript", unfollowed := true, recurses := true, apart := false, narrowed := true }
def FixScriptUptoSaid : Prop := fixScriptUptoRow.holds Try.pinned (OpenSpec.upto fixScriptSpec)

/-- 'tenurelaw12.FixNone', WHERE WHAT IT READS IS OF BULK AT MOST 1048576: true; the input reads as it did. -/
def fixNoneUptoRow : OpenClaim := { program := "ytbldebjdgenfdaa", sum := "b63852bb882a08c49092851dcab17385b1572852d7ffb8dd3f7d870283091e43", func := "tenure/tenurelaw12.FixNone", spec := "fixNone", unfollowed := true, recurses := true, apart := false, narrowed := true }
def FixNoneUptoSaid : Prop := fixNoneUptoRow.holds Try.pinned (OpenSpec.upto fixNoneSpec)

/-- 'tenurelaw12.FixKnown', WHERE WHAT IT READS IS OF BULK AT MOST 1048576: true; the input reads as it did. -/
def fixKnownUptoRow : OpenClaim := { program := "ytbldebjdgenfdaa", sum := "b63852bb882a08c49092851dcab17385b1572852d7ffb8dd3f7d870283091e43", func := "tenure/tenurelaw12.FixKnown", spec := "fixKnown", unfollowed := true, recurses := true, apart := false, narrowed := true }
def FixKnownUptoSaid : Prop := fixKnownUptoRow.holds Try.pinned (OpenSpec.upto fixKnownSpec)

/-- 'tenurelaw12.FixSums', WHERE WHAT IT READS IS OF BULK AT MOST 1048576: true; the input reads as it did. -/
def fixSumsUptoRow : OpenClaim := { program := "ytbldebjdgenfdaa", sum := "b63852bb882a08c49092851dcab17385b1572852d7ffb8dd3f7d870283091e43", func := "tenure/tenurelaw12.FixSums", spec := "fixSums", unfollowed := true, recurses := true, apart := false, narrowed := true }
def FixSumsUptoSaid : Prop := fixSumsUptoRow.holds Try.pinned (OpenSpec.upto fixSumsSpec)

end Rows
end Go.Proofs.Ytbldebjdgenfdaa
