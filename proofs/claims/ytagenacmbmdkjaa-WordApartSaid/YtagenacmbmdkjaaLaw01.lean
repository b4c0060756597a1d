/- The helpers of layer 1's laws, each by its contract. -/
import Derived.Test.YtagenacmbmdkjaaWordUn
import Derived.Test.YtagenacmbmdkjaaRefWord
namespace Go.Proofs.Ytagenacmbmdkjaa.Wd
open Go.RowKit K
set_option linter.unusedVariables false
set_option linter.unusedSimpArgs false

def packB (k n want e : Int) : Bool := decide (packW k n = want ∧ packE k n = e)
def unB (x k n e : Int) : Bool := decide (unK x = k ∧ unN x = n ∧ unE x = e)

set_option maxHeartbeats 4000000 in
theorem packs_any (k n want e0 : Int) (hk : (Lit.int .i64 k).wf = true) (hn : (Lit.int .i64 n).wf = true) (w : World) :
    Calls Try.prog 16 #[.int .i64 k, .int .i64 n, .int .u64 want, .int .i64 e0] w fun e w' => e = .returned (.bool (packB k n want e0)) ∧ Below w.heap.size w w' := by
  by_cases a : packW k n = want
  · by_cases b : packE k n = e0
    · have e1 : packB k n want e0 = true := by simp [packB, a, b]
      rw [e1]; clear e1
      subst a; subst b
      go_enter Try.func16, Try.ntmps16
      go_wp2_with (go_at_call 8; refine (pack_any _ _ hk hn _).mono ?_; rintro e w1 ⟨rfl, hb⟩)
      go_ret
      exact ⟨ret1_b rfl, hb⟩
    · have e1 : packB k n want e0 = false := by simp [packB, b]
      rw [e1]; clear e1
      subst a
      have b' : (packE k n == e0) = false := by simpa using b
      clear b
      go_enter Try.func16, Try.ntmps16
      go_wp2_with (go_at_call 8; refine (pack_any _ _ hk hn _).mono ?_; rintro e w1 ⟨rfl, hb⟩)
      go_ret
      exact ⟨ret1_b rfl, hb⟩
  · have e1 : packB k n want e0 = false := by simp [packB, a]
    rw [e1]; clear e1
    have a' : (packW k n == want) = false := by simpa using a
    clear a
    go_enter Try.func16, Try.ntmps16
    go_wp2_with (go_at_call 8; refine (pack_any _ _ hk hn _).mono ?_; rintro e w1 ⟨rfl, hb⟩)
    go_ret
    exact ⟨ret1_b rfl, hb⟩

set_option maxHeartbeats 4000000 in
theorem unpacks_any (x k n e0 : Int) (h0 : 0 ≤ x) (h1 : x < 18446744073709551616) (w : World) :
    Calls Try.prog 17 #[.int .u64 x, .int .i64 k, .int .i64 n, .int .i64 e0] w fun e w' => e = .returned (.bool (unB x k n e0)) ∧ Below w.heap.size w w' := by
  by_cases a : unK x = k
  · by_cases b : unN x = n
    · by_cases c : unE x = e0
      · have e1 : unB x k n e0 = true := by simp [unB, a, b, c]
        rw [e1]; clear e1
        subst a; subst b; subst c
        go_enter Try.func17, Try.ntmps17
        go_wp2_with (go_at_call 11; refine (unpack_any _ h0 h1 _).mono ?_; rintro e w1 ⟨rfl, hb⟩)
        go_ret
        exact ⟨ret1_b rfl, hb⟩
      · have e1 : unB x k n e0 = false := by simp [unB, c]
        rw [e1]; clear e1
        have c' : (unE x == e0) = false := by simpa using c
        subst a; subst b; clear c
        go_enter Try.func17, Try.ntmps17
        go_wp2_with (go_at_call 11; refine (unpack_any _ h0 h1 _).mono ?_; rintro e w1 ⟨rfl, hb⟩)
        go_ret
        exact ⟨ret1_b rfl, hb⟩
    · have e1 : unB x k n e0 = false := by simp [unB, b]
      rw [e1]; clear e1
      have b' : (unN x == n) = false := by simpa using b
      subst a; clear b
      go_enter Try.func17, Try.ntmps17
      go_wp2_with (go_at_call 11; refine (unpack_any _ h0 h1 _).mono ?_; rintro e w1 ⟨rfl, hb⟩)
      go_ret
      exact ⟨ret1_b rfl, hb⟩
  · have e1 : unB x k n e0 = false := by simp [unB, a]
    rw [e1]; clear e1
    have a' : (unK x == k) = false := by simpa using a
    clear a
    go_enter Try.func17, Try.ntmps17
    go_wp2_with (go_at_call 11; refine (unpack_any _ h0 h1 _).mono ?_; rintro e w1 ⟨rfl, hb⟩)
    go_ret
    exact ⟨ret1_b rfl, hb⟩

set_option maxHeartbeats 4000000 in
theorem awake_any (w : World) : Calls Try.prog 10 #[] w fun e w' => e = .returned (.bool true) ∧ Below w.heap.size w w' := by
  have a1 : packB 1 5 81 0 = true := by decide +kernel
  have a2 : packB 1 (-1) 18446744073709551601 0 = true := by decide +kernel
  have a3 : unB 81 1 5 0 = true := by decide +kernel
  have hb := Below.refl w.heap.size w
  go_enter Try.func10, Try.ntmps10
  go_wp2_with (first | (go_at_call 16; refine (packs_any _ _ _ _ (by decide +kernel) (by decide +kernel) _).mono ?_; rintro e w1 ⟨rfl, hb1⟩; replace hb := hb.trans (hb1.mono hb.size); clear hb1) | (go_at_call 17; refine (unpacks_any _ _ _ _ (by omega) (by omega) _).mono ?_; rintro e w1 ⟨rfl, hb1⟩; replace hb := hb.trans (hb1.mono hb.size); clear hb1))
  go_outline
  go_ret
  exact ⟨ret1_b rfl, hb⟩
end Go.Proofs.Ytagenacmbmdkjaa.Wd
