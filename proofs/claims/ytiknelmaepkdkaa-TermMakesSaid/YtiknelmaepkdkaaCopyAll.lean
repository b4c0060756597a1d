/- CopyAll, by its contract. -/
import Derived.Test.YtiknelmaepkdkaaTmCopy
namespace Go.Proofs.Ytiknelmaepkdkaa.K
open Go.RowKit
set_option linter.unusedVariables false
set_option linter.unusedSimpArgs false

theorem copyAll_any (l : List Tm) (A : Option Addr) (c : Nat) (w : World) (h : TsA w A l) (hn : nodesL l ≤ 1048576) :
    Calls Try.prog 11 #[.slice A l.length c] w (CopiedL w l) := by
  have HC := Lib.hid (copyTerms_any l A c w h hn)
  clear h hn
  go_enter Try.func11, Try.ntmps11
  go_wp2_with fail
  refine HC.out.mono ?_
  rintro e w1 ⟨v, rfl, ⟨A1, c1, rfl, h1⟩, hb1⟩
  have HB := Lib.hid hb1
  have H1 := Lib.hid h1
  clear h1 hb1
  go_wp2_with fail
  go_ret
  exact ⟨_, rfl, ⟨A1, c1, rfl, H1.out⟩, HB.out⟩
end Go.Proofs.Ytiknelmaepkdkaa.K
