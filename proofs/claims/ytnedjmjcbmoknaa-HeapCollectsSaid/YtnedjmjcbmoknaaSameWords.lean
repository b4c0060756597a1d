/- SameWords of tenurekit, of two lists that are the same: it says true. -/
import Derived.Test.YtnedjmjcbmoknaaLawKit
import Derived.Test.YtnedjmjcbmoknaaRows2
import Derived.Outline
import Derived.Deep.QuietTactic
import Derived.BigQuiet
import Derived.WalkLawsBesides
import Derived.WalkSpells
namespace Go.Proofs.Ytnedjmjcbmoknaa.K
open Go.RowKit
set_option linter.unusedVariables false
set_option linter.unusedSimpArgs false

set_option maxRecDepth 100000 in
set_option maxHeartbeats 4000000 in
theorem sameWords_yes (A A' : Option Addr) (c c' B B' : Nat) (xs : List Int) (w : World) (h : Reads w B 1 A xs.length (xs.map (Value.int .u64))) (h' : Reads w B' 1 A' xs.length (xs.map (Value.int .u64))) (hl : xs.length ≤ 1099511627776) :
    Calls Try.prog 16 #[.slice A xs.length c, .slice A' xs.length c'] w fun e w' => e = .returned (.bool true) ∧ ∃ n, w' = w.drewN n := by
  go_enter Try.func16, Try.ntmps16
  go_wp2_with fail
  go_loopw [5] (fun i wr => ∃ k : Nat, k ≤ xs.length ∧ i = .int .i64 (k : Int) ∧ ∃ n, wr = w.drewN n) (fun i _ => xs.length - (intOf i).toNat)
  case atStart => exact ⟨0, Nat.zero_le _, rfl, 0, rfl⟩
  case round =>
    obtain ⟨k, hk, rfl, n, rfl⟩ := hrel
    by_cases hlt : k < xs.length
    · obtain ⟨ad, u, rfl, _, hu, hc⟩ := h.at_ hlt
      obtain ⟨ad', u', rfl, _, hu', hc'⟩ := h'.at_ hlt
      rw [List.getElem?_map, List.getElem?_eq_getElem hlt] at hu hu'
      injection hu with hu
      injection hu' with hu'
      subst hu; subst hu'
      obtain ⟨s, hs⟩ : ∃ s, xs[k] = s := ⟨_, rfl⟩
      rw [hs] at hc hc'
      clear hs h h'
      go_wp2_with fail
      go_quiet (fail)
      go_wp2_with fail
      go_roundw
      case rel => exact ⟨k + 1, by omega, by go_num, _, rfl⟩
      case measure => simp [intOf]; omega
    · clear h h'
      go_wp2_with fail
      go_ret
      exact ⟨ret1_b rfl, n, rfl⟩
end Go.Proofs.Ytnedjmjcbmoknaa.K
