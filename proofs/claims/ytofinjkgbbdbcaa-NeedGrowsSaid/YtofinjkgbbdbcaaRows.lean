/-
  NARROWER THAN 'FOR EVERY INPUT', by the rows' own cells (each row's printed sentence says how): NeedTells: loops · NeedSums: loops · NeedGrows: loops.
  DERIVED. THE GIVEN ROWS OF THIS SEAT. 4 by the template 'for every input the law returns true; each argument reads behind the call as it read before'; 0 by the template 'total and deterministic' (their statements: YtofinjkgbbdbcaaTotals.lean).
  GIVEN WITH THE SEED: the statements are not yours to turn. If you find one false, say at which input.
  Laid BY PROGRAM, IN A SANDBOX (cutbox-rows.mjs): the forced cells as the released guide's own fill.sh prints them over the translation 43651b38b5ddb544… (all of the seat's roots in one cut). By AI agents, Wed Nov 11 2026. No macro, syntax, notation, axiom, sorry.
-/
import Derived.Test.YtofinjkgbbdbcaaChecked
import GoSem.Claim
import GoSem.ClaimJoined
import GoSem.ClaimMapViews
import Derived.JoinedTies
import Derived.KernelRfl
namespace Go.Proofs.Ytofinjkgbbdbcaa
/- THE CELL 'sum', in the pinned program and in every row, IS THE sha256 OF THE DUMP (.gsa) THAT YtofinjkgbbdbcaaProg.lean LOADS. Nothing in Lean hashes anything: it is a label: what it is worth is what the hold of that sum in a sandbox is worth. -/
noncomputable def Try.pinned : Pinned := { name := "ytofinjkgbbdbcaa", sum := "43651b38b5ddb54446c75fbf8c545396ea9c9626c460cda15fffe735fa00e1ec", checked := Try.checked }
namespace Rows
def none {H : Type} : Left H := { results := [], args := [] }

/-- 'tenurelaw13.NeedTells': WHATEVER THE INPUT: true; the input reads as it did. -/
def needTellsSpec : ChangeSpec := { name := "needTells", fn := fun _ => fun
  | [d1, d2, d3] => { results := [.lit (.bool true)], args := [d1, d2, d3] }
  | _ => none }
def needTellsRow : OpenClaim := { program := "ytofinjkgbbdbcaa", sum := "43651b38b5ddb54446c75fbf8c545396ea9c9626c460cda15fffe735fa00e1ec", func := "tenure/tenurelaw13.NeedTells", spec := "needTells", unfollowed := true, recurses := true, loops := true, apart := false }
def NeedTellsSaid : Prop := needTellsRow.holds Try.pinned (OpenSpec.ofChange needTellsSpec)

/-- ITS FALSE NEIGHBOUR: 'it returns false'. Refute it at one input. -/
def needTellsWrong : ChangeSpec := { name := "needTells", fn := fun _ => fun
  | [d1, d2, d3] => { results := [.lit (.bool false)], args := [d1, d2, d3] }
  | _ => none }
def NeedTellsWrongFalsely : Prop := needTellsRow.holds Try.pinned (OpenSpec.ofChange needTellsWrong)

/-- 'tenurelaw13.NeedSums': WHATEVER THE INPUT: true; the input reads as it did. -/
def needSumsSpec : ChangeSpec := { name := "needSums", fn := fun _ => fun
  | [d1, d2, d3, d4] => { results := [.lit (.bool true)], args := [d1, d2, d3, d4] }
  | _ => none }
def needSumsRow : OpenClaim := { program := "ytofinjkgbbdbcaa", sum := "43651b38b5ddb54446c75fbf8c545396ea9c9626c460cda15fffe735fa00e1ec", func := "tenure/tenurelaw13.NeedSums", spec := "needSums", unfollowed := true, recurses := true, loops := true, apart := false }
def NeedSumsSaid : Prop := needSumsRow.holds Try.pinned (OpenSpec.ofChange needSumsSpec)

/-- ITS FALSE NEIGHBOUR: 'it returns false'. Refute it at one input. -/
def needSumsWrong : ChangeSpec := { name := "needSums", fn := fun _ => fun
  | [d1, d2, d3, d4] => { results := [.lit (.bool false)], args := [d1, d2, d3, d4] }
  | _ => none }
def NeedSumsWrongFalsely : Prop := needSumsRow.holds Try.pinned (OpenSpec.ofChange needSumsWrong)

/-- 'tenurelaw13.NeedKnown': WHATEVER THE INPUT: true; the input reads as it did. -/
def needKnownSpec : ChangeSpec := { name := "needKnown", fn := fun _ => fun
  | [] => { results := [.lit (.bool true)], args := [] }
  | _ => none }
def needKnownRow : OpenClaim := { program := "ytofinjkgbbdbcaa", sum := "43651b38b5ddb54446c75fbf8c545396ea9c9626c460cda15fffe735fa00e1ec", func := "tenure/tenurelaw13.NeedKnown", spec := "needKnown", unfollowed := true, recurses := true, apart := false }
def NeedKnownSaid : Prop := needKnownRow.holds Try.pinned (OpenSpec.ofChange needKnownSpec)

/-- ITS FALSE NEIGHBOUR: 'it returns false'. Refute it at one input. -/
def needKnownWrong : ChangeSpec := { name := "needKnown", fn := fun _ => fun
  | [] => { results := [.lit (.bool false)], args := [] }
  | _ => none }
def NeedKnownWrongFalsely : Prop := needKnownRow.holds Try.pinned (OpenSpec.ofChange needKnownWrong)

/-- 'tenurelaw13.NeedGrows': WHATEVER THE INPUT: true; the input reads as it did. -/
def needGrowsSpec : ChangeSpec := { name := "needGrows", fn := fun _ => fun
  | [d1, d2, d3, d4] => { results := [.lit (.bool true)], args := [d1, d2, d3, d4] }
  | _ => none }
def needGrowsRow : OpenClaim := { program := "ytofinjkgbbdbcaa", sum := "43651b38b5ddb54446c75fbf8c545396ea9c9626c460cda15fffe735fa00e1ec", func := "tenure/tenurelaw13.NeedGrows", spec := "needGrows", unfollowed := true, recurses := true, loops := true, apart := false }
def NeedGrowsSaid : Prop := needGrowsRow.holds Try.pinned (OpenSpec.ofChange needGrowsSpec)

/-- ITS FALSE NEIGHBOUR: 'it returns false'. Refute it at one input. -/
def needGrowsWrong : ChangeSpec := { name := "needGrows", fn := fun _ => fun
  | [d1, d2, d3, d4] => { results := [.lit (.bool false)], args := [d1, d2, d3, d4] }
  | _ => none }
def NeedGrowsWrongFalsely : Prop := needGrowsRow.holds Try.pinned (OpenSpec.ofChange needGrowsWrong)

/- THE SECOND FORM. 'bulk': how many values and letters a reading holds, each counted each time it is reached (what is shared counts as often as it is met; a slice's spare places count too). A statement '..UptoSaid' is the law's where the arguments, and the package variables that the reading takes, are together of bulk at most 1048576: NARROWER than '..Said'. Prove '..Said' where nothing that the law and all that it calls make is longer than what came in: it says more and counts as full. Else prove '..UptoSaid'. A law counts once. -/
mutual
def uptoBulk {H : Type} : DataW H → Nat
  | .lit (.string bytes) => bytes.length + 1
  | .lit _ => 1
  | .nil => 1
  | .ptr d => uptoBulk d + 1
  | .slice elems spare => uptoBulkAll elems + uptoBulkAll spare + 1
  | .agg parts => uptoBulkAll parts + 1
  | .iface _ d => uptoBulk d + 1
  | .map entries => uptoBulkEntries entries + 1
  | .held _ => 1
def uptoBulkAll {H : Type} : List (DataW H) → Nat
  | [] => 0
  | d :: r => uptoBulk d + uptoBulkAll r
def uptoBulkEntries {H : Type} : List (Lit × DataW H) → Nat
  | [] => 0
  | x :: r => uptoBulkEntry x + uptoBulkEntries r
def uptoBulkEntry {H : Type} : Lit × DataW H → Nat
  | (.string bytes, d) => bytes.length + uptoBulk d + 1
  | (_, d) => uptoBulk d + 1
 end
def uptoSmall : (H : Type) → List (DataW H) → Bool := fun _ ds => decide (uptoBulkAll ds ≤ 1048576)
def OpenSpec.upto (s : _root_.Go.ChangeSpec) : _root_.Go.OpenSpec := { _root_.Go.OpenSpec.ofChange s with cond := some uptoSmall }

/-- 'tenurelaw13.NeedTells', WHERE WHAT IT READS IS OF BULK AT MOST 1048576: true; the input reads as it did. -/
def needTellsUptoRow : OpenClaim := { program := "ytofinjkgbbdbcaa", sum := "43651b38b5ddb54446c75fbf8c545396ea9c9626c460cda15fffe735fa00e1ec", func := "tenure/tenurelaw13.NeedTells", spec := "needTells", unfollowed := true, recurses := true, loops := true, apart := false, narrowed := true }
def NeedTellsUptoSaid : Prop := needTellsUptoRow.holds Try.pinned (OpenSpec.upto needTellsSpec)

/-- 'tenurelaw13.NeedSums', WHERE WHAT IT READS IS OF BULK AT MOST 1048576: true; the input reads as it did. -/
def needSumsUptoRow : OpenClaim := { program := "ytofinjkgbbdbcaa", sum := "43651b38b5ddb54446c75fbf8c545396ea9c9626c460cda15fffe735fa00e1ec", func := "tenure/tenurelaw13.NeedSums", spec := "needSums", unfollowed := true, recurses := true, loops := true, apart := false, narrowed := true }
def NeedSumsUptoSaid : Prop := needSumsUptoRow.holds Try.pinned (OpenSpec.upto needSumsSpec)

/-- 'tenurelaw13.NeedKnown', WHERE WHAT IT READS IS OF BULK AT MOST 1048576: true; the input reads as it did. -/
def needKnownUptoRow : OpenClaim := { program := "ytofinjkgbbdbcaa", sum := "43651b38b5ddb54446c75fbf8c545396ea9c9626c460cda15fffe735fa00e1ec", func := "tenure/tenurelaw13.NeedKnown", spec := "needKnown", unfollowed := true, recurses := true, apart := false, narrowed := true }
def NeedKnownUptoSaid : Prop := needKnownUptoRow.holds Try.pinned (OpenSpec.upto needKnownSpec)

/-- 'tenurelaw13.NeedGrows', WHERE WHAT IT READS IS OF BULK AT MOST 1048576: true; the input reads as it did. -/
def needGrowsUptoRow : OpenClaim := { program := "ytofinjkgbbdbcaa", sum := "43651b38b5ddb54446c75fbf8c545396ea9c9626c460cda15fffe735fa00e1ec", func := "tenure/tenurelaw13.NeedGrows", spec := "needGrows", unfollowed := true, recurses := true, loops := true, apart := false, narrowed := true }
def NeedGrowsUptoSaid : Prop := needGrowsUptoRow.holds Try.pinned (OpenSpec.upto needGrowsSpec)

end Rows
end Go.Proofs.Ytofinjkgbbdbcaa
