/- The package word's function most, by its contract. -/
import Derived.Test.YtnedjmjcbmoknaaLawKit
import Derived.Test.YtnedjmjcbmoknaaWordSpec
import Derived.Outline
import Derived.Deep.QuietTactic
import Derived.BigQuiet
import Derived.WalkLawsBesides
import Derived.WalkSpells
namespace Go.Proofs.Ytnedjmjcbmoknaa.Wd
open Go.RowKit K
set_option linter.unusedVariables false
set_option linter.unusedSimpArgs false

set_option maxHeartbeats 4000000 in
theorem most_any (k : Int) (w : World) :
    Calls Try.prog 55 #[.int .i64 k] w fun e w' => e = .returned (.tuple #[.int .i64 (mostV k), .bool (isK k)]) ∧ Below w.heap.size w w' := by
  by_cases h0 : k < 0
  · have e1 : mostV k = 0 := by unfold mostV; repeat (first | split | omega)
    have e2 : isK k = false := by simp [isK]; omega
    have E1 := Lib.hid e1; have E2 := Lib.hid e2; clear e1 e2
    go_enter Try.func55, Try.ntmps55
    go_wp2
    go_ret2
    exact ⟨ret2_ib E1.out.symm E2.out.symm, (Below.refl _ _).alloc (Nat.le_refl _) _⟩
  by_cases h12 : 12 ≤ k
  · have e1 : mostV k = 0 := by unfold mostV; repeat (first | split | omega)
    have e2 : isK k = false := by simp [isK]; omega
    have E1 := Lib.hid e1; have E2 := Lib.hid e2; clear e1 e2
    go_enter Try.func55, Try.ntmps55
    go_wp2
    go_ret2
    exact ⟨ret2_ib E1.out.symm E2.out.symm, (Below.refl _ _).alloc (Nat.le_refl _) _⟩
  have h : k = 0 ∨ k = 1 ∨ k = 2 ∨ k = 3 ∨ k = 4 ∨ k = 5 ∨ k = 6 ∨ k = 7 ∨ k = 8 ∨ k = 9 ∨ k = 10 ∨ k = 11 := by omega
  rcases h with rfl | rfl | rfl | rfl | rfl | rfl | rfl | rfl | rfl | rfl | rfl | rfl
  all_goals
    go_enter Try.func55, Try.ntmps55
    go_wp2
    go_ret2
    exact ⟨ret2_ib (by decide) (by decide), (Below.refl _ _).alloc (Nat.le_refl _) _⟩

end Go.Proofs.Ytnedjmjcbmoknaa.Wd
