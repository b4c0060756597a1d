/-
  No cell of these rows narrows 'for every input' (looked for: loops, veiled, ifaces, maps, wideKeys, modest, calm, conditions, laid).
  DERIVED. THE GIVEN ROWS OF THIS SEAT. 4 by the template 'for every input the law returns true; each argument reads behind the call as it read before'; 0 by the template 'total and deterministic' (their statements: YtjipncpplpfobaaTotals.lean).
  GIVEN WITH THE SEED: the statements are not yours to turn. If you find one false, say at which input.
  Laid BY PROGRAM, IN A SANDBOX (cutbox-rows.mjs): the forced cells as the released guide's own fill.sh prints them over the translation 0b831056d4753a04… (all of the seat's roots in one cut). By AI agents, Wed Nov 11 2026. No macro, syntax, notation, axiom, sorry.
-/
import Derived.Test.YtjipncpplpfobaaChecked
import GoSem.Claim
import GoSem.ClaimJoined
import GoSem.ClaimMapViews
import Derived.JoinedTies
import Derived.KernelRfl
namespace Go.Proofs.Ytjipncpplpfobaa
/- THE CELL 'sum', in the pinned program and in every row, IS THE sha256 OF THE DUMP (.gsa) THAT YtjipncpplpfobaaProg.lean LOADS. Nothing in Lean hashes anything: it is a label: what it is worth is what the hold of that sum in a sandbox is worth. -/
noncomputable def Try.pinned : Pinned := { name := "ytjipncpplpfobaa", sum := "0b831056d4753a04f843805e0e1641b3909f664e2fc7cb6c86fbfee58da0e67a", checked := Try.checked }
namespace Rows
def none {H : Type} : Left H := { results := [], args := [] }

/-- 'tenurelaw10.LinhashScript': WHATEVER THE INPUT: true; the input reads as it did. -/
def linhashScriptSpec : ChangeSpec := { name := "linhashScript", fn := fun _ => fun
  | [d1, d2] => { results := [.lit (.bool true)], args := [d1, d2] }
  | _ => none }
def linhashScriptRow : OpenClaim := { program := "ytjipncpplpfobaa", sum := "0b831056d4753a04f843805e0e1641b3909f664e2fc7cb6c86fbfee58da0e67a", func := "tenure/tenurelaw10.LinhashScript", spec := "linhashScript", unfollowed := true, recurses := true, apart := false }
def LinhashScriptSaid : Prop := linhashScriptRow.holds Try.pinned (OpenSpec.ofChange linhashScriptSpec)

/-- ITS FALSE NEIGHBOUR: 'it returns false'. Refute it at one input. -/
def linhashScriptWrong : ChangeSpec := { name := "linhashScript", fn := fun _ => fun
  | [d1, d2] => { results := [.lit (.bool false)], args := [d1, d2] }
  | _ => none }
def LinhashScriptWrongFalsely : Prop := linhashScriptRow.holds Try.pinned (OpenSpec.ofChange linhashScriptWrong)

/-- 'tenurelaw10.LinhashNone': WHATEVER THE INPUT: true; the input reads as it did. -/
def linhashNoneSpec : ChangeSpec := { name := "linhashNone", fn := fun _ => fun
  | [d1, d2] => { results := [.lit (.bool true)], args := [d1, d2] }
  | _ => none }
def linhashNoneRow : OpenClaim := { program := "ytjipncpplpfobaa", sum := "0b831056d4753a04f843805e0e1641b3909f664e2fc7cb6c86fbfee58da0e67a", func := "tenure/tenurelaw10.LinhashNone", spec := "linhashNone", unfollowed := true, recurses := true, apart := false }
def LinhashNoneSaid : Prop := linhashNoneRow.holds Try.pinned (OpenSpec.ofChange linhashNoneSpec)

/-- ITS FALSE NEIGHBOUR: 'it returns false'. Refute it at one input. -/
def linhashNoneWrong : ChangeSpec := { name := "linhashNone", fn := fun _ => fun
  | [d1, d2] => { results := [.lit (.bool false)], args := [d1, d2] }
  | _ => none }
def LinhashNoneWrongFalsely : Prop := linhashNoneRow.holds Try.pinned (OpenSpec.ofChange linhashNoneWrong)

/-- 'tenurelaw10.LinhashKnown': WHATEVER THE INPUT: true; the input reads as it did. -/
def linhashKnownSpec : ChangeSpec := { name := "linhashKnown", fn := fun _ => fun
  | [] => { results := [.lit (.bool true)], args := [] }
  | _ => none }
def linhashKnownRow : OpenClaim := { program := "ytjipncpplpfobaa", sum := "0b831056d4753a04f843805e0e1641b3909f664e2fc7cb6c86fbfee58da0e67a", func := "tenure/tenurelaw10.LinhashKnown", spec := "linhashKnown", unfollowed := true, recurses := true, apart := false }
def LinhashKnownSaid : Prop := linhashKnownRow.holds Try.pinned (OpenSpec.ofChange linhashKnownSpec)

/-- ITS FALSE NEIGHBOUR: 'it returns false'. Refute it at one input. -/
def linhashKnownWrong : ChangeSpec := { name := "linhashKnown", fn := fun _ => fun
  | [] => { results := [.lit (.bool false)], args := [] }
  | _ => none }
def LinhashKnownWrongFalsely : Prop := linhashKnownRow.holds Try.pinned (OpenSpec.ofChange linhashKnownWrong)

/-- 'tenurelaw10.LinhashBand': WHATEVER THE INPUT: true; the input reads as it did. -/
def linhashBandSpec : ChangeSpec := { name := "linhashBand", fn := fun _ => fun
  | [d1, d2] => { results := [.lit (.bool true)], args := [d1, d2] }
  | _ => none }
def linhashBandRow : OpenClaim := { program := "ytjipncpplpfobaa", sum := "0b831056d4753a04f843805e0e1641b3909f664e2fc7cb6c86fbfee58da0e67a", func := "tenure/tenurelaw10.LinhashBand", spec := "linhashBand", unfollowed := true, recurses := true, apart := false }
def LinhashBandSaid : Prop := linhashBandRow.holds Try.pinned (OpenSpec.ofChange linhashBandSpec)

/-- ITS FALSE NEIGHBOUR: 'it returns false'. Refute it at one input. -/
def linhashBandWrong : ChangeSpec := { name := "linhashBand", fn := fun _ => fun
  | [d1, d2] => { results := [.lit (.bool false)], args := [d1, d2] }
  | _ => none }
def LinhashBandWrongFalsely : Prop := linhashBandRow.holds Try.pinned (OpenSpec.ofChange linhashBandWrong)

/- THE SECOND FORM. 'bulk': how many values and letters a reading holds, each counted each time it is reached (what is shared counts as often as it is met; a slice's spare places count too). A statement '..UptoSaid' is the law's where the arguments, and the package variables that the reading takes, are together of bulk at most 1048576: NARROWER than '..Said'. Prove '..Said' where nothing that the law and all that it calls make is longer than what came in: it says more and counts as full. Else prove '..UptoSaid'. A law counts once. -/
mutual
def uptoBulk {H : Type} : DataW H → Nat
  | .lit (.string bytes) => bytes.length + 1
  | .lit _ => 1
  | .nil => 1
  | .ptr d => uptoBulk d + 1
  | .slice elems spare => uptoBulkAll elems + uptoBulkAll spare + 1
  | .agg parts => uptoBulkAll parts + 1
  | .iface _ d => uptoBulk d + 1
  | .map entries => uptoBulkEntries entries + 1
  | .held _ => 1
def uptoBulkAll {H : Type} : List (DataW H) → Nat
  | [] => 0
  | d :: r => uptoBulk d + uptoBulkAll r
def uptoBulkEntries {H : Type} : List (Lit × DataW H) → Nat
  | [] => 0
  | x :: r => uptoBulkEntry x + uptoBulkEntries r
def uptoBulkEntry {H : Type} : Lit × DataW H → Nat
  | (.string bytes, d) => bytes.length + uptoBulk d + 1
  | (_, d) => uptoBulk d + 1
 end
def uptoSmall : (H : Type) → List (DataW H) → Bool := fun _ ds => decide (uptoBulkAll ds ≤ 1048576)
def OpenSpec.upto (s : _root_.Go.ChangeSpec) : _root_.Go.OpenSpec := { _root_.Go.OpenSpec.ofChange s with cond := some uptoSmall }

/-- 'tenurelaw10.LinhashScript', WHERE WHAT IT READS IS OF BULK AT MOST 1048576: true; the input reads as it did. -/
def linhashScriptUptoRow : OpenClaim := { program := "ytjipncpplpfobaa", sum := "0b831056d4753a04f843805e0e1641b3909f664e2fc7cb6c86fbfee58da0e67a", func := "tenure/tenurelaw10.LinhashScript", spec := "linhashScript", unfollowed := true, recurses := true, apart := false, narrowed := true }
def LinhashScriptUptoSaid : Prop := linhashScriptUptoRow.holds Try.pinned (OpenSpec.upto linhashScriptSpec)

/-- 'tenurelaw10.LinhashNone', WHERE WHAT IT READS IS OF BULK AT MOST 1048576: true; the input reads as it did. -/
def linhashNoneUptoRow : OpenClaim := { program := "ytjipncpplpfobaa", sum := "0b831056d4753a04f843805e0e1641b3909f664e2fc7cb6c86fbfee58da0e67a", func := "tenure/tenurelaw10.LinhashNone", spec := "linhashNone", unfollowed := true, recurses := true, apart := false, narrowed := true }
def LinhashNoneUptoSaid : Prop := linhashNoneUptoRow.holds Try.pinned (OpenSpec.upto linhashNoneSpec)

/-- 'tenurelaw10.LinhashKnown', WHERE WHAT IT READS IS OF BULK AT MOST 1048576: true; the input reads as it did. -/
def linhashKnownUptoRow : OpenClaim := { program := "ytjipncpplpfobaa", sum := "0b831056d4753a04f843805e0e1641b3909f664e2fc7cb6c86fbfee58da0e67a", func := "tenure/tenurelaw10.LinhashKnown", spec := "linhashKnown", unfollowed := true, recurses := true, apart := false, narrowed := true }
def LinhashKnownUptoSaid : Prop := linhashKnownUptoRow.holds Try.pinned (OpenSpec.upto linhashKnownSpec)

/-- 'tenurelaw10.LinhashBand', WHERE WHAT IT READS IS OF BULK AT MOST 1048576: true; the input reads as it did. -/
def linhashBandUptoRow : OpenClaim := { program := "ytjipncpplpfobaa", sum := "0b831056d4753a04f843805e0e1641b3909f664e2fc7cb6c86fbfee58da0e67a", func := "tenure/tenurelaw10.LinhashBand", spec := "linhashBand", unfollowed := true, recurses := true, apart := false, narrowed := true }
def LinhashBandUptoSaid : Prop := linhashBandUptoRow.holds Try.pinned (OpenSpec.upto linhashBandSpec)

end Rows
end Go.Proofs.Ytjipncpplpfobaa
