/-
  No cell of these rows narrows 'for every input' (looked for: loops, veiled, ifaces, maps, wideKeys, modest, calm, conditions, laid).
  DERIVED. THE GIVEN ROWS OF THIS SEAT. 5 by the template 'for every input the law returns true; each argument reads behind the call as it read before'; 0 by the template 'total and deterministic' (their statements: YtnomnkohhfkdnaaTotals.lean).
  GIVEN WITH THE SEED: the statements are not yours to turn. If you find one false, say at which input.
  Laid BY PROGRAM, IN A SANDBOX (cutbox-rows.mjs): the forced cells as the released guide's own fill.sh prints them over the translation 27f7bb8089246b65… (all of the seat's roots in one cut). By AI agents, Wed Nov 11 2026. No macro, syntax, notation, axiom, sorry.
-/
import Derived.Test.YtnomnkohhfkdnaaChecked
import GoSem.Claim
import GoSem.ClaimJoined
import GoSem.ClaimMapViews
import Derived.JoinedTies
import Derived.KernelRfl
namespace Go.Proofs.Ytnomnkohhfkdnaa
/- THE CELL 'sum', in the pinned program and in every row, IS THE sha256 OF THE DUMP (.gsa) THAT YtnomnkohhfkdnaaProg.lean LOADS. Nothing in Lean hashes anything: it is a label: what it is worth is what the hold of that sum in a sandbox is worth. -/
noncomputable def Try.pinned : Pinned := { name := "ytnomnkohhfkdnaa", sum := "27f7bb8089246b65e8670d87584c8b4430574b5602519034287fe8c26b08b5d1", checked := Try.checked }
namespace Rows
def none {H : Type} : Left H := { results := [], args := [] }

/-- 'tenurelaw06.AtomKnown': WHATEVER THE INPUT: true; the input reads as it did. -/
def atomKnownSpec : ChangeSpec := { name := "atomKnown", fn := fun _ => fun
  | [] => { results := [.lit (.bool true)], args := [] }
  | _ => none }
def atomKnownRow : OpenClaim := { program := "ytnomnkohhfkdnaa", sum := "27f7bb8089246b65e8670d87584c8b4430574b5602519034287fe8c26b08b5d1", func := "tenure/tenurelaw06.AtomKnown", spec := "atomKnown", apart := false }
def AtomKnownSaid : Prop := atomKnownRow.holds Try.pinned (OpenSpec.ofChange atomKnownSpec)

/-- ITS FALSE NEIGHBOUR: 'it returns false'. Refute it at one input. -/
def atomKnownWrong : ChangeSpec := { name := "atomKnown", fn := fun _ => fun
  | [] => { results := [.lit (.bool false)], args := [] }
  | _ => none }
def AtomKnownWrongFalsely : Prop := atomKnownRow.holds Try.pinned (OpenSpec.ofChange atomKnownWrong)

/-- 'tenurelaw06.AtomFull': WHATEVER THE INPUT: true; the input reads as it did. -/
def atomFullSpec : ChangeSpec := { name := "atomFull", fn := fun _ => fun
  | [d1, d2] => { results := [.lit (.bool true)], args := [d1, d2] }
  | _ => none }
def atomFullRow : OpenClaim := { program := "ytnomnkohhfkdnaa", sum := "27f7bb8089246b65e8670d87584c8b4430574b5602519034287fe8c26b08b5d1", func := "tenure/tenurelaw06.AtomFull", spec := "atomFull", apart := false }
def AtomFullSaid : Prop := atomFullRow.holds Try.pinned (OpenSpec.ofChange atomFullSpec)

/-- ITS FALSE NEIGHBOUR: 'it returns false'. Refute it at one input. -/
def atomFullWrong : ChangeSpec := { name := "atomFull", fn := fun _ => fun
  | [d1, d2] => { results := [.lit (.bool false)], args := [d1, d2] }
  | _ => none }
def AtomFullWrongFalsely : Prop := atomFullRow.holds Try.pinned (OpenSpec.ofChange atomFullWrong)

/-- 'tenurelaw06.AtomOnce': WHATEVER THE INPUT: true; the input reads as it did. -/
def atomOnceSpec : ChangeSpec := { name := "atomOnce", fn := fun _ => fun
  | [d] => { results := [.lit (.bool true)], args := [d] }
  | _ => none }
def atomOnceRow : OpenClaim := { program := "ytnomnkohhfkdnaa", sum := "27f7bb8089246b65e8670d87584c8b4430574b5602519034287fe8c26b08b5d1", func := "tenure/tenurelaw06.AtomOnce", spec := "atomOnce", apart := false }
def AtomOnceSaid : Prop := atomOnceRow.holds Try.pinned (OpenSpec.ofChange atomOnceSpec)

/-- ITS FALSE NEIGHBOUR: 'it returns false'. Refute it at one input. -/
def atomOnceWrong : ChangeSpec := { name := "atomOnce", fn := fun _ => fun
  | [d] => { results := [.lit (.bool false)], args := [d] }
  | _ => none }
def AtomOnceWrongFalsely : Prop := atomOnceRow.holds Try.pinned (OpenSpec.ofChange atomOnceWrong)

/-- 'tenurelaw06.AtomScript': WHATEVER THE INPUT: true; the input reads as it did. -/
def atomScriptSpec : ChangeSpec := { name := "atomScript", fn := fun _ => fun
  | [d1, d2] => { results := [.lit (.bool true)], args := [d1, d2] }
  | _ => none }
def atomScriptRow : OpenClaim := { program := "ytnomnkohhfkdnaa", sum := "27f7bb8089246b65e8670d87584c8b4430574b5602519034287fe8c26b08b5d1", func := "tenure/tenurelaw06.AtomScript", spec := "atomScript", apart := false }
def AtomScriptSaid : Prop := atomScriptRow.holds Try.pinned (OpenSpec.ofChange atomScriptSpec)

/-- ITS FALSE NEIGHBOUR: 'it returns false'. Refute it at one input. -/
def atomScriptWrong : ChangeSpec := { name := "atomScript", fn := fun _ => fun
  | [d1, d2] => { results := [.lit (.bool false)], args := [d1, d2] }
  | _ => none }
def AtomScriptWrongFalsely : Prop := atomScriptRow.holds Try.pinned (OpenSpec.ofChange atomScriptWrong)

/-- 'tenurelaw06.AtomNone': WHATEVER THE INPUT: true; the input reads as it did. -/
def atomNoneSpec : ChangeSpec := { name := "atomNone", fn := fun _ => fun
  | [d1, d2] => { results := [.lit (.bool true)], args := [d1, d2] }
  | _ => none }
def atomNoneRow : OpenClaim := { program := "ytnomnkohhfkdnaa", sum := "27f7bb8089246b65e8670d87584c8b4430574b5602519034287fe8c26b08b5d1", func := "tenure/tenurelaw06.AtomNone", spec := "atomNone", apart := false }
def AtomNoneSaid : Prop := atomNoneRow.holds Try.pinned (OpenSpec.ofChange atomNoneSpec)

/-- ITS FALSE NEIGHBOUR: 'it returns false'. Refute it at one input. -/
def atomNoneWrong : ChangeSpec := { name := "atomNone", fn := fun _ => fun
  | [d1, d2] => { results := [.lit (.bool false)], args := [d1, d2] }
  | _ => none }
def AtomNoneWrongFalsely : Prop := atomNoneRow.holds Try.pinned (OpenSpec.ofChange atomNoneWrong)

/- THE SECOND FORM. 'bulk': how many values and letters a reading holds, each counted each time it is reached (what is shared counts as often as it is met; a slice's spare places count too). A statement '..UptoSaid' is the law's where the arguments, and the package variables that the reading takes, are together of bulk at most 1048576: NARROWER than '..Said'. Prove '..Said' where nothing that the law and all that it calls make is longer than what came in: it says more and counts as full. Else prove '..UptoSaid'. A law counts once. -/
mutual
def uptoBulk {H : Type} : DataW H → Nat
  | .lit (.string bytes) => bytes.length + 1
  | .lit _ => 1
  | .nil => 1
  | .ptr d => uptoBulk d + 1
  | .slice elems spare => uptoBulkAll elems + uptoBulkAll spare + 1
  | .agg parts => uptoBulkAll parts + 1
  | .iface _ d => uptoBulk d + 1
  | .map entries => uptoBulkEntries entries + 1
  | .held _ => 1
def uptoBulkAll {H : Type} : List (DataW H) → Nat
  | [] => 0
  | d :: r => uptoBulk d + uptoBulkAll r
def uptoBulkEntries {H : Type} : List (Lit × DataW H) → Nat
  | [] => 0
  | x :: r => uptoBulkEntry x + uptoBulkEntries r
def uptoBulkEntry {H : Type} : Lit × DataW H → Nat
  | (.string bytes, d) => bytes.length + uptoBulk d + 1
  | (_, d) => uptoBulk d + 1
 end
def uptoSmall : (H : Type) → List (DataW H) → Bool := fun _ ds => decide (uptoBulkAll ds ≤ 1048576)
def OpenSpec.upto (s : _root_.Go.ChangeSpec) : _root_.Go.OpenSpec := { _root_.Go.OpenSpec.ofChange s with cond := some uptoSmall }

/-- 'tenurelaw06.AtomKnown', WHERE WHAT IT READS IS OF BULK AT MOST 1048576: true; the input reads as it did. -/
def atomKnownUptoRow : OpenClaim := { program := "ytnomnkohhfkdnaa", sum := "27f7bb8089246b65e8670d87584c8b4430574b5602519034287fe8c26b08b5d1", func := "tenure/tenurelaw06.AtomKnown", spec := "atomKnown", apart := false, narrowed := true }
def AtomKnownUptoSaid : Prop := atomKnownUptoRow.holds Try.pinned (OpenSpec.upto atomKnownSpec)

/-- 'tenurelaw06.AtomFull', WHERE WHAT IT READS IS OF BULK AT MOST 1048576: true; the input reads as it did. -/
def atomFullUptoRow : OpenClaim := { program := "ytnomnkohhfkdnaa", sum := "27f7bb8089246b65e8670d87584c8b4430574b5602519034287fe8c26b08b5d1", func := "tenure/tenurelaw06.AtomFull", spec := "atomFull", apart := false, narrowed := true }
def AtomFullUptoSaid : Prop := atomFullUptoRow.holds Try.pinned (OpenSpec.upto atomFullSpec)

/-- 'tenurelaw06.AtomOnce', WHERE WHAT IT READS IS OF BULK AT MOST 1048576: true; the input reads as it did. -/
def atomOnceUptoRow : OpenClaim := { program := "ytnomnkohhfkdnaa", sum := "27f7bb8089246b65e8670d87584c8b4430574b5602519034287fe8c26b08b5d1", func := "tenure/tenurelaw06.AtomOnce", spec := "atomOnce", apart := false, narrowed := true }
def AtomOnceUptoSaid : Prop := atomOnceUptoRow.holds Try.pinned (OpenSpec.upto atomOnceSpec)

/-- 'tenurelaw06.AtomScript', WHERE WHAT IT READS IS OF BULK AT MOST 1048576: true; the input reads as it did. -/
def atomScriptUptoRow : OpenClaim := { program := "ytnomnkohhfkdnaa", sum := "27f7bb8089246b65e8670d87584c8b4430574b5602519034287fe8c26b08b5d1", func := "tenure/tenurelaw06.AtomScript", spec := "atomScript", apart := false, narrowed := true }
def AtomScriptUptoSaid : Prop := atomScriptUptoRow.holds Try.pinned (OpenSpec.upto atomScriptSpec)

/-- 'tenurelaw06.AtomNone', WHERE WHAT IT READS IS OF BULK AT MOST 1048576: true; the input reads as it did. -/
def atomNoneUptoRow : OpenClaim := { program := "ytnomnkohhfkdnaa", sum := "27f7bb8089246b65e8670d87584c8b4430574b5602519034287fe8c26b08b5d1", func := "tenure/tenurelaw06.AtomNone", spec := "atomNone", apart := false, narrowed := true }
def AtomNoneUptoSaid : Prop := atomNoneUptoRow.holds Try.pinned (OpenSpec.upto atomNoneSpec)

end Rows
end Go.Proofs.Ytnomnkohhfkdnaa
