/- tenurekit.Pick, by its contract. -/
import Derived.Test.YtiknelmaepkdkaaLawKit
import Derived.WalkLawsBesides
import Derived.WalkSpells
namespace Go.Proofs.Ytiknelmaepkdkaa.K
open Go.RowKit
set_option linter.unusedVariables false
set_option linter.unusedSimpArgs false

def pickN (x n : Int) : Int := if n < 1 then 0 else x % n
theorem pickN_range {x n : Int} (h : 1 ≤ n) : 0 ≤ pickN x n ∧ pickN x n < n := by
  unfold pickN
  rw [if_neg (by omega)]
  exact ⟨Int.emod_nonneg _ (by omega), Int.emod_lt_of_pos _ (by omega)⟩
theorem tmod_up {x n : Int} (hn : 1 ≤ n) (h : x.tmod n < 0) : x.tmod n + n = x % n := by
  have h1 := Int.emod_nonneg x (b := n) (by omega)
  rw [Int.tmod_eq_emod] at h ⊢
  split at h <;> rename_i hc
  · omega
  · rw [if_neg hc]; omega
theorem tmod_same {x n : Int} (hn : 1 ≤ n) (h : 0 ≤ x.tmod n) : x.tmod n = x % n := by
  have h1 := Int.emod_lt_of_pos x (b := n) (by omega)
  rw [Int.tmod_eq_emod] at h ⊢
  split at h <;> rename_i hc
  · rw [if_pos hc]; omega
  · exfalso; omega

set_option maxHeartbeats 4000000 in
theorem pick_any (x n : Int) (hx : (Lit.int .i64 x).wf = true) (hn : (Lit.int .i64 n).wf = true) (w : World) :
    Calls Try.prog 39 #[.int .i64 x, .int .i64 n] w fun e w' => e = .returned (.int .i64 (pickN x n)) ∧ w = w' := by
  obtain ⟨x1, x2⟩ := bounds_i64 hx
  obtain ⟨n1, n2⟩ := bounds_i64 hn
  clear hx hn
  by_cases a : n < 1
  · have e1 : pickN x n = 0 := by unfold pickN; rw [if_pos a]
    rw [e1]; clear e1
    go_enter Try.func39, Try.ntmps39
    go_wp2
    go_ret
    exact ⟨ret1_i rfl, rfl⟩
  · have e1 : pickN x n = x % n := by unfold pickN; rw [if_neg a]
    rw [e1]; clear e1
    have a' : 1 ≤ n := by omega
    clear a
    have r1 := Int.emod_nonneg x (b := n) (by omega)
    have r2 := Int.emod_lt_of_pos x (b := n) (by omega)
    by_cases b : 0 ≤ x
    · go_enter Try.func39, Try.ntmps39
      go_wp2
      go_ret
      exact ⟨ret1_i rfl, rfl⟩
    · have b' : x < 0 := by omega
      by_cases c : x.tmod n < 0
      · have E := Lib.hid (tmod_up a' c)
        have c2 : -n ≤ x.tmod n := by
          have := tmod_up a' c
          omega
        clear b
        go_enter Try.func39, Try.ntmps39
        go_wp2
        go_ret
        exact ⟨ret1_i E.out, rfl⟩
      · have c' : 0 ≤ x.tmod n := by omega
        have E := Lib.hid (tmod_same a' c')
        clear b c
        go_enter Try.func39, Try.ntmps39
        go_wp2
        go_ret
        exact ⟨ret1_i E.out, rfl⟩
end Go.Proofs.Ytiknelmaepkdkaa.K
