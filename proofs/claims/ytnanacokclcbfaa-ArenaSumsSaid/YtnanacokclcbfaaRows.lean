/-
  No cell of these rows narrows 'for every input' (looked for: loops, veiled, ifaces, maps, wideKeys, modest, calm, conditions, laid).
  DERIVED. THE GIVEN ROWS OF THIS SEAT. 6 by the template 'for every input the law returns true; each argument reads behind the call as it read before'; 0 by the template 'total and deterministic' (their statements: YtnanacokclcbfaaTotals.lean).
  GIVEN WITH THE SEED: the statements are not yours to turn. If you find one false, say at which input.
  Laid BY PROGRAM, IN A SANDBOX (cutbox-rows.mjs): the forced cells as the released guide's own fill.sh prints them over the translation 05083a86fbd04a9a… (all of the seat's roots in one cut). By AI agents, Wed Nov 11 2026. No macro, syntax, notation, axiom, sorry.
-/
import Derived.Test.YtnanacokclcbfaaChecked
import GoSem.Claim
import GoSem.ClaimJoined
import GoSem.ClaimMapViews
import Derived.JoinedTies
import Derived.KernelRfl
namespace Go.Proofs.Ytnanacokclcbfaa
/- THE CELL 'sum', in the pinned program and in every row, IS THE sha256 OF THE DUMP (.gsa) THAT YtnanacokclcbfaaProg.lean LOADS. Nothing in Lean hashes anything: it is a label: what it is worth is what the hold of that sum in a sandbox is worth. -/
noncomputable def Try.pinned : Pinned := { name := "ytnanacokclcbfaa", sum := "05083a86fbd04a9a9f053945acedac16b14c1d8a53fc6cf5212b2d47b83ce882", checked := Try.checked }
namespace Rows
def none {H : Type} : Left H := { results := [], args := [] }

/-- 'tenurelaw08.ArenaRounds': WHATEVER THE INPUT: true; the input reads as it did. -/
def arenaRoundsSpec : ChangeSpec := { name := "arenaRounds", fn := fun _ => fun
  | [d] => { results := [.lit (.bool true)], args := [d] }
  | _ => none }
def arenaRoundsRow : OpenClaim := { program := "ytnanacokclcbfaa", sum := "05083a86fbd04a9a9f053945acedac16b14c1d8a53fc6cf5212b2d47b83ce882", func := "tenure/tenurelaw08.ArenaRounds", spec := "arenaRounds", apart := false }
def ArenaRoundsSaid : Prop := arenaRoundsRow.holds Try.pinned (OpenSpec.ofChange arenaRoundsSpec)

/-- ITS FALSE NEIGHBOUR: 'it returns false'. Refute it at one input. -/
def arenaRoundsWrong : ChangeSpec := { name := "arenaRounds", fn := fun _ => fun
  | [d] => { results := [.lit (.bool false)], args := [d] }
  | _ => none }
def ArenaRoundsWrongFalsely : Prop := arenaRoundsRow.holds Try.pinned (OpenSpec.ofChange arenaRoundsWrong)

/-- 'tenurelaw08.ArenaKnown': WHATEVER THE INPUT: true; the input reads as it did. -/
def arenaKnownSpec : ChangeSpec := { name := "arenaKnown", fn := fun _ => fun
  | [] => { results := [.lit (.bool true)], args := [] }
  | _ => none }
def arenaKnownRow : OpenClaim := { program := "ytnanacokclcbfaa", sum := "05083a86fbd04a9a9f053945acedac16b14c1d8a53fc6cf5212b2d47b83ce882", func := "tenure/tenurelaw08.ArenaKnown", spec := "arenaKnown", unfollowed := true, recurses := true, apart := false }
def ArenaKnownSaid : Prop := arenaKnownRow.holds Try.pinned (OpenSpec.ofChange arenaKnownSpec)

/-- ITS FALSE NEIGHBOUR: 'it returns false'. Refute it at one input. -/
def arenaKnownWrong : ChangeSpec := { name := "arenaKnown", fn := fun _ => fun
  | [] => { results := [.lit (.bool false)], args := [] }
  | _ => none }
def ArenaKnownWrongFalsely : Prop := arenaKnownRow.holds Try.pinned (OpenSpec.ofChange arenaKnownWrong)

/-- 'tenurelaw08.ArenaRises': WHATEVER THE INPUT: true; the input reads as it did. -/
def arenaRisesSpec : ChangeSpec := { name := "arenaRises", fn := fun _ => fun
  | [d1, d2] => { results := [.lit (.bool true)], args := [d1, d2] }
  | _ => none }
def arenaRisesRow : OpenClaim := { program := "ytnanacokclcbfaa", sum := "05083a86fbd04a9a9f053945acedac16b14c1d8a53fc6cf5212b2d47b83ce882", func := "tenure/tenurelaw08.ArenaRises", spec := "arenaRises", unfollowed := true, recurses := true, apart := false }
def ArenaRisesSaid : Prop := arenaRisesRow.holds Try.pinned (OpenSpec.ofChange arenaRisesSpec)

/-- ITS FALSE NEIGHBOUR: 'it returns false'. Refute it at one input. -/
def arenaRisesWrong : ChangeSpec := { name := "arenaRises", fn := fun _ => fun
  | [d1, d2] => { results := [.lit (.bool false)], args := [d1, d2] }
  | _ => none }
def ArenaRisesWrongFalsely : Prop := arenaRisesRow.holds Try.pinned (OpenSpec.ofChange arenaRisesWrong)

/-- 'tenurelaw08.ArenaScript': WHATEVER THE INPUT: true; the input reads as it did. -/
def arenaScriptSpec : ChangeSpec := { name := "arenaScript", fn := fun _ => fun
  | [d1, d2] => { results := [.lit (.bool true)], args := [d1, d2] }
  | _ => none }
def arenaScriptRow : OpenClaim := { program := "ytnanacokclcbfaa", sum := "05083a86fbd04a9a9f053945acedac16b14c1d8a53fc6cf5212b2d47b83ce882", func := "tenure/tenurelaw08.ArenaScript", spec := "arenaScript", unfollowed := true, recurses := true, apart := false }
def ArenaScriptSaid : Prop := arenaScriptRow.holds Try.pinned (OpenSpec.ofChange arenaScriptSpec)

/-- ITS FALSE NEIGHBOUR: 'it returns false'. Refute it at one input. -/
def arenaScriptWrong : ChangeSpec := { name := "arenaScript", fn := fun _ => fun
  | [d1, d2] => { results := [.lit (.bool false)], args := [d1, d2] }
  | _ => none }
def ArenaScriptWrongFalsely : Prop := arenaScriptRow.holds Try.pinned (OpenSpec.ofChange arenaScriptWrong)

/-- 'tenurelaw08.ArenaNone': WHATEVER THE INPUT: true; the input reads as it did. -/
def arenaNoneSpec : ChangeSpec := { name := "arenaNone", fn := fun _ => fun
  | [d1, d2] => { results := [.lit (.bool true)], args := [d1, d2] }
  | _ => none }
def arenaNoneRow : OpenClaim := { program := "ytnanacokclcbfaa", sum := "05083a86fbd04a9a9f053945acedac16b14c1d8a53fc6cf5212b2d47b83ce882", func := "tenure/tenurelaw08.ArenaNone", spec := "arenaNone", unfollowed := true, recurses := true, apart := false }
def ArenaNoneSaid : Prop := arenaNoneRow.holds Try.pinned (OpenSpec.ofChange arenaNoneSpec)

/-- ITS FALSE NEIGHBOUR: 'it returns false'. Refute it at one input. -/
def arenaNoneWrong : ChangeSpec := { name := "arenaNone", fn := fun _ => fun
  | [d1, d2] => { results := [.lit (.bool false)], args := [d1, d2] }
  | _ => none }
def ArenaNoneWrongFalsely : Prop := arenaNoneRow.holds Try.pinned (OpenSpec.ofChange arenaNoneWrong)

/-- 'tenurelaw08.ArenaSums': WHATEVER THE INPUT: true; the input reads as it did. -/
def arenaSumsSpec : ChangeSpec := { name := "arenaSums", fn := fun _ => fun
  | [d1, d2] => { results := [.lit (.bool true)], args := [d1, d2] }
  | _ => none }
def arenaSumsRow : OpenClaim := { program := "ytnanacokclcbfaa", sum := "05083a86fbd04a9a9f053945acedac16b14c1d8a53fc6cf5212b2d47b83ce882", func := "tenure/tenurelaw08.ArenaSums", spec := "arenaSums", unfollowed := true, recurses := true, apart := false }
def ArenaSumsSaid : Prop := arenaSumsRow.holds Try.pinned (OpenSpec.ofChange arenaSumsSpec)

/-- ITS FALSE NEIGHBOUR: 'it returns false'. Refute it at one input. -/
def arenaSumsWrong : ChangeSpec := { name := "arenaSums", fn := fun _ => fun
  | [d1, d2] => { results := [.lit (.bool false)], args := [d1, d2] }
  | _ => none }
def ArenaSumsWrongFalsely : Prop := arenaSumsRow.holds Try.pinned (OpenSpec.ofChange arenaSumsWrong)

/- THE SECOND FORM. 'bulk': how many values and letters a reading holds, each counted each time it is reached (what is shared counts as often as it is met; a slice's spare places count too). A statement '..UptoSaid' is the law's where the arguments, and the package variables that the reading takes, are together of bulk at most 1048576: NARROWER than '..Said'. Prove '..Said' where nothing that the law and all that it calls make is longer than what came in: it says more and counts as full. Else prove '..UptoSaid'. A law counts once. -/
mutual
def uptoBulk {H : Type} : DataW H → Nat
  | .lit (.string bytes) => bytes.length + 1
  | .lit _ => 1
  | .nil => 1
  | .ptr d => uptoBulk d + 1
  | .slice elems spare => uptoBulkAll elems + uptoBulkAll spare + 1
  | .agg parts => uptoBulkAll parts + 1
  | .iface _ d => uptoBulk d + 1
  | .map entries => uptoBulkEntries entries + 1
  | .held _ => 1
def uptoBulkAll {H : Type} : List (DataW H) → Nat
  | [] => 0
  | d :: r => uptoBulk d + uptoBulkAll r
def uptoBulkEntries {H : Type} : List (Lit × DataW H) → Nat
  | [] => 0
  | x :: r => uptoBulkEntry x + uptoBulkEntries r
def uptoBulkEntry {H : Type} : Lit × DataW H → Nat
  | (.string bytes, d) => bytes.length + uptoBulk d + 1
  | (_, d) => uptoBulk d + 1
 end
def uptoSmall : (H : Type) → List (DataW H) → Bool := fun _ ds => decide (uptoBulkAll ds ≤ 1048576)
def OpenSpec.upto (s : _root_.Go.ChangeSpec) : _root_.Go.OpenSpec := { _root_.Go.OpenSpec.ofChange s with cond := some uptoSmall }

/-- 'tenurelaw08.ArenaRounds', WHERE WHAT IT READS IS OF BULK AT MOST 1048576: true; the input reads as it did. -/
def arenaRoundsUptoRow : OpenClaim := { program := "ytnanacokclcbfaa", sum := "05083a86fbd04a9a9f053945acedac16b14c1d8a53fc6cf5212b2d47b83ce882", func := "tenure/tenurelaw08.ArenaRounds", spec := "arenaRounds", apart := false, narrowed := true }
def ArenaRoundsUptoSaid : Prop := arenaRoundsUptoRow.holds Try.pinned (OpenSpec.upto arenaRoundsSpec)

/-- 'tenurelaw08.ArenaKnown', WHERE WHAT IT READS IS OF BULK AT MOST 1048576: true; the input reads as it did. -/
def arenaKnownUptoRow : OpenClaim := { program := "ytnanacokclcbfaa", sum := "05083a86fbd04a9a9f053945acedac16b14c1d8a53fc6cf5212b2d47b83ce882", func := "tenure/tenurelaw08.ArenaKnown", spec := "arenaKnown", unfollowed := true, recurses := true, apart := false, narrowed := true }
def ArenaKnownUptoSaid : Prop := arenaKnownUptoRow.holds Try.pinned (OpenSpec.upto arenaKnownSpec)

/-- 'tenurelaw08.ArenaRises', WHERE WHAT IT READS IS OF BULK AT MOST 1048576: true; the input reads as it did. -/
def arenaRisesUptoRow : OpenClaim := { program := "ytnanacokclcbfaa", sum := "05083a86fbd04a9a9f053945acedac16b14c1d8a53fc6cf5212b2d47b83ce882", func := "tenure/tenurelaw08.ArenaRises", spec := "arenaRises", unfollowed := true, recurses := true, apart := false, narrowed := true }
def ArenaRisesUptoSaid : Prop := arenaRisesUptoRow.holds Try.pinned (OpenSpec.upto arenaRisesSpec)

/-- 'tenurelaw08.ArenaScript', WHERE WHAT IT READS IS OF BULK AT MOST 1048576: true; the input reads as it did. -/
def arenaScriptUptoRow : OpenClaim := { program := "ytnanacokclcbfaa", sum := "05083a86fbd04a9a9f053945acedac16b14c1d8a53fc6cf5212b2d47b83ce882", func := "tenure/tenurelaw08.ArenaScript", spec := "arenaScript", unfollowed := true, recurses := true, apart := false, narrowed := true }
def ArenaScriptUptoSaid : Prop := arenaScriptUptoRow.holds Try.pinned (OpenSpec.upto arenaScriptSpec)

/-- 'tenurelaw08.ArenaNone', WHERE WHAT IT READS IS OF BULK AT MOST 1048576: true; the input reads as it did. -/
def arenaNoneUptoRow : OpenClaim := { program := "ytnanacokclcbfaa", sum := "05083a86fbd04a9a9f053945acedac16b14c1d8a53fc6cf5212b2d47b83ce882", func := "tenure/tenurelaw08.ArenaNone", spec := "arenaNone", unfollowed := true, recurses := true, apart := false, narrowed := true }
def ArenaNoneUptoSaid : Prop := arenaNoneUptoRow.holds Try.pinned (OpenSpec.upto arenaNoneSpec)

/-- 'tenurelaw08.ArenaSums', WHERE WHAT IT READS IS OF BULK AT MOST 1048576: true; the input reads as it did. -/
def arenaSumsUptoRow : OpenClaim := { program := "ytnanacokclcbfaa", sum := "05083a86fbd04a9a9f053945acedac16b14c1d8a53fc6cf5212b2d47b83ce882", func := "tenure/tenurelaw08.ArenaSums", spec := "arenaSums", unfollowed := true, recurses := true, apart := false, narrowed := true }
def ArenaSumsUptoSaid : Prop := arenaSumsUptoRow.holds Try.pinned (OpenSpec.upto arenaSumsSpec)

end Rows
end Go.Proofs.Ytnanacokclcbfaa
