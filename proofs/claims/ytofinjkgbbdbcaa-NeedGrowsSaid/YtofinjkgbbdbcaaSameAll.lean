/- SameAll, and what 'not large' gives. -/
import Derived.Test.YtofinjkgbbdbcaaTmSame
namespace Go.Proofs.Ytofinjkgbbdbcaa.K
open Go.RowKit
set_option linter.unusedVariables false
set_option linter.unusedSimpArgs false

theorem sameAll_any (l l' : List Tm) (A A' : Option Addr) (c c' : Nat) (w : World) (h : TsA w A l) (h' : TsA w A' l') (hl : l.length ≤ maxLen) (hl' : l'.length ≤ maxLen) :
    Calls Try.prog 25 #[.slice A l.length c, .slice A' l'.length c'] w fun e w' => e = .returned (.bool (eqTs l l')) ∧ Below w.heap.size w w' := by
  have HC := Lib.hid (sameTerms_any l l' A A' c c' w h h' hl hl')
  clear h h' hl hl'
  go_enter Try.func25, Try.ntmps25
  go_wp2_with (first | (go_at_call 38; refine HC.out.mono ?_; rintro e w2 ⟨rfl, hb2⟩) | fail)
  go_ret
  exact ⟨rfl, hb2⟩
end Go.Proofs.Ytofinjkgbbdbcaa.K
