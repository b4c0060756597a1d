/- The document's answer for layer 1 (tenureref01), each function by its contract. -/
import Derived.Test.YtfcialleekfjmaaLawKit
import Derived.Test.YtfcialleekfjmaaWordSpec
import Derived.WalkLawsBesides
import Derived.WalkSpells
import Derived.Outline
import Derived.Deep.QuietTactic
import Derived.BigQuiet
namespace Go.Proofs.Ytfcialleekfjmaa.Wd
open Go.RowKit K
set_option linter.unusedVariables false
set_option linter.unusedSimpArgs false

def mayF (k n : Int) : Bool := isK k && fits k n

set_option maxHeartbeats 8000000 in
theorem may_num (k n : Int) (hk : k = 2 ∨ k = 3 ∨ k = 4 ∨ k = 5 ∨ k = 6 ∨ k = 7 ∨ k = 9) (w : World) :
    Calls Try.prog 77 #[.int .i64 k, .int .i64 n] w fun e w' => e = .returned (.tuple #[.bool (mayF k n), .bool (isK k)]) ∧ w' = w := by
  have e1 : mayF k n = decide (0 ≤ n ∧ n ≤ 1073741824) := by
    rcases hk with rfl | rfl | rfl | rfl | rfl | rfl | rfl <;> simp [mayF, isK, fits, low, high, mostV]
  have e2 : isK k = true := by rcases hk with rfl | rfl | rfl | rfl | rfl | rfl | rfl <;> rfl
  rw [e1, e2]
  clear e1 e2
  by_cases a : n < 0
  · have e3 : decide (0 ≤ n ∧ n ≤ 1073741824) = false := by simp; omega
    rw [e3]; clear e3
    rcases hk with rfl | rfl | rfl | rfl | rfl | rfl | rfl
    all_goals
      go_enter Try.func77, Try.ntmps77
      go_wp2
      go_ret2
      exact ⟨ret2_bb (by first | rfl | (simp; omega)) rfl, rfl⟩
  · have a' : 0 ≤ n := by omega
    by_cases b : 1073741824 < n
    · have e3 : decide (0 ≤ n ∧ n ≤ 1073741824) = false := by simp; omega
      rw [e3]; clear e3
      rcases hk with rfl | rfl | rfl | rfl | rfl | rfl | rfl
      all_goals
        go_enter Try.func77, Try.ntmps77
        go_wp2
        go_ret2
        exact ⟨ret2_bb (by first | rfl | (simp; omega)) rfl, rfl⟩
    · have b' : n ≤ 1073741824 := by omega
      have e3 : decide (0 ≤ n ∧ n ≤ 1073741824) = true := by simp; omega
      rw [e3]; clear e3
      rcases hk with rfl | rfl | rfl | rfl | rfl | rfl | rfl
      all_goals
        go_enter Try.func77, Try.ntmps77
        go_wp2
        go_ret2
        exact ⟨ret2_bb (by first | rfl | (simp; omega)) rfl, rfl⟩

set_option maxHeartbeats 8000000 in
theorem may_int (n : Int) (w : World) :
    Calls Try.prog 77 #[.int .i64 1, .int .i64 n] w fun e w' => e = .returned (.tuple #[.bool (mayF 1 n), .bool (isK 1)]) ∧ w' = w := by
  have e1 : mayF 1 n = decide (-576460752303423488 ≤ n ∧ n ≤ 576460752303423487) := by simp [mayF, isK, fits, low, high, mostV]
  have e2 : isK 1 = true := rfl
  rw [e1, e2]
  clear e1 e2
  by_cases a : n < -576460752303423488
  · have e3 : decide (-576460752303423488 ≤ n ∧ n ≤ 576460752303423487) = false := by simp; omega
    rw [e3]; clear e3
    go_enter Try.func77, Try.ntmps77
    go_wp2
    go_ret2
    exact ⟨ret2_bb (by first | rfl | (simp; omega)) rfl, rfl⟩
  have a' : -576460752303423488 ≤ n := by omega
  by_cases b : 576460752303423487 < n
  · have e3 : decide (-576460752303423488 ≤ n ∧ n ≤ 576460752303423487) = false := by simp; omega
    rw [e3]; clear e3
    go_enter Try.func77, Try.ntmps77
    go_wp2
    go_ret2
    exact ⟨ret2_bb (by first | rfl | (simp; omega)) rfl, rfl⟩
  have b' : n ≤ 576460752303423487 := by omega
  have e3 : decide (-576460752303423488 ≤ n ∧ n ≤ 576460752303423487) = true := by simp; omega
  rw [e3]; clear e3
  go_enter Try.func77, Try.ntmps77
  go_wp2
  go_ret2
  exact ⟨ret2_bb (by first | rfl | (simp; omega)) rfl, rfl⟩

set_option maxHeartbeats 8000000 in
theorem may_head (n : Int) (w : World) :
    Calls Try.prog 77 #[.int .i64 10, .int .i64 n] w fun e w' => e = .returned (.tuple #[.bool (mayF 10 n), .bool (isK 10)]) ∧ w' = w := by
  have e1 : mayF 10 n = decide (0 ≤ n ∧ n ≤ 64) := by simp [mayF, isK, fits, low, high, mostV]
  have e2 : isK 10 = true := rfl
  rw [e1, e2]
  clear e1 e2
  by_cases a : n < 0
  · have e3 : decide (0 ≤ n ∧ n ≤ 64) = false := by simp; omega
    rw [e3]; clear e3
    go_enter Try.func77, Try.ntmps77
    go_wp2
    go_ret2
    exact ⟨ret2_bb (by first | rfl | (simp; omega)) rfl, rfl⟩
  have a' : 0 ≤ n := by omega
  by_cases b : 64 < n
  · have e3 : decide (0 ≤ n ∧ n ≤ 64) = false := by simp; omega
    rw [e3]; clear e3
    go_enter Try.func77, Try.ntmps77
    go_wp2
    go_ret2
    exact ⟨ret2_bb (by first | rfl | (simp; omega)) rfl, rfl⟩
  have b' : n ≤ 64 := by omega
  have e3 : decide (0 ≤ n ∧ n ≤ 64) = true := by simp; omega
  rw [e3]; clear e3
  go_enter Try.func77, Try.ntmps77
  go_wp2
  go_ret2
  exact ⟨ret2_bb (by first | rfl | (simp; omega)) rfl, rfl⟩

set_option maxHeartbeats 8000000 in
theorem may_nil (n : Int) (w : World) :
    Calls Try.prog 77 #[.int .i64 8, .int .i64 n] w fun e w' => e = .returned (.tuple #[.bool (mayF 8 n), .bool (isK 8)]) ∧ w' = w := by
  have e1 : mayF 8 n = decide (n = 0) := by rw [Bool.eq_iff_iff]; simp [mayF, isK, fits, low, high, mostV]; omega
  have e2 : isK 8 = true := rfl
  rw [e1, e2]
  clear e1 e2
  by_cases a : n = 0
  · subst a
    go_enter Try.func77, Try.ntmps77
    go_wp2
    go_ret2
    exact ⟨ret2_bb (by first | rfl | (simp; omega)) rfl, rfl⟩
  have e3 : decide (n = 0) = false := by simpa using a
  have e4 : (n == 0) = false := by simpa using a
  rw [e3]; clear e3 a
  go_enter Try.func77, Try.ntmps77
  go_wp2
  go_ret2
  exact ⟨ret2_bb (by first | rfl | (simp; omega)) rfl, rfl⟩

set_option maxHeartbeats 8000000 in
theorem may_nothing (n : Int) (w : World) :
    Calls Try.prog 77 #[.int .i64 0, .int .i64 n] w fun e w' => e = .returned (.tuple #[.bool (mayF 0 n), .bool (isK 0)]) ∧ w' = w := by
  have e1 : mayF 0 n = decide (n = 0) := by rw [Bool.eq_iff_iff]; simp [mayF, isK, fits, low, high, mostV]; omega
  have e2 : isK 0 = true := rfl
  rw [e1, e2]
  clear e1 e2
  by_cases a : n = 0
  · subst a
    go_enter Try.func77, Try.ntmps77
    go_wp2
    go_ret2
    exact ⟨ret2_bb (by first | rfl | (simp; omega)) rfl, rfl⟩
  have e3 : decide (n = 0) = false := by simpa using a
  have e4 : (n == 0) = false := by simpa using a
  rw [e3]; clear e3 a
  go_enter Try.func77, Try.ntmps77
  go_wp2
  go_ret2
  exact ⟨ret2_bb (by first | rfl | (simp; omega)) rfl, rfl⟩

set_option maxHeartbeats 8000000 in
theorem may_fun (n : Int) (hn : (Lit.int .i64 n).wf = true) (w : World) :
    Calls Try.prog 77 #[.int .i64 11, .int .i64 n] w fun e w' => e = .returned (.tuple #[.bool (mayF 11 n), .bool (isK 11)]) ∧ w' = w := by
  have hbd := bounds_i64 hn
  have hn1 : n ≤ 9223372036854775807 := hbd.2
  clear hbd hn
  have e1 : mayF 11 n = decide (0 ≤ n ∧ n ≤ 137438953536 ∧ n % 128 ≤ 64) := by simp [mayF, isK, fits, low, high, mostV]
  have e2 : isK 11 = true := rfl
  rw [e1, e2]
  clear e1 e2
  by_cases a : n < 0
  · have e3 : decide (0 ≤ n ∧ n ≤ 137438953536 ∧ n % 128 ≤ 64) = false := by simp; omega
    rw [e3]; clear e3
    go_enter Try.func77, Try.ntmps77
    go_wp2
    go_ret2
    exact ⟨ret2_bb (by first | rfl | (simp; omega)) rfl, rfl⟩
  have a' : 0 ≤ n := by omega
  by_cases b : 64 < n % 128
  · have e3 : decide (0 ≤ n ∧ n ≤ 137438953536 ∧ n % 128 ≤ 64) = false := by simp; omega
    rw [e3]; clear e3
    go_enter Try.func77, Try.ntmps77
    go_wp2
    go_ret2
    exact ⟨ret2_bb (by first | rfl | (simp; omega)) rfl, rfl⟩
  have b' : n % 128 ≤ 64 := by omega
  by_cases c : 1073741824 < n / 128
  · have e3 : decide (0 ≤ n ∧ n ≤ 137438953536 ∧ n % 128 ≤ 64) = false := by simp; omega
    rw [e3]; clear e3
    go_enter Try.func77, Try.ntmps77
    go_wp2
    go_ret2
    exact ⟨ret2_bb (by first | rfl | (simp; omega)) rfl, rfl⟩
  have c' : n / 128 ≤ 1073741824 := by omega
  have e3 : decide (0 ≤ n ∧ n ≤ 137438953536 ∧ n % 128 ≤ 64) = true := by simp; omega
  rw [e3]; clear e3
  go_enter Try.func77, Try.ntmps77
  go_wp2
  go_ret2
  exact ⟨ret2_bb (by first | rfl | (simp; omega)) rfl, rfl⟩

set_option maxHeartbeats 8000000 in
theorem may_no (k n : Int) (hk : k < 0 ∨ 11 < k) (w : World) :
    Calls Try.prog 77 #[.int .i64 k, .int .i64 n] w fun e w' => e = .returned (.tuple #[.bool (mayF k n), .bool (isK k)]) ∧ w' = w := by
  have e2 : isK k = false := by simp [isK]; omega
  have e1 : mayF k n = false := by simp [mayF, e2]
  rw [e1, e2]
  clear e1 e2
  rcases hk with h | h
  all_goals
    go_enter Try.func77, Try.ntmps77
    go_wp2
    go_ret2
    exact ⟨ret2_bb rfl rfl, rfl⟩

theorem may_any (k n : Int) (hn : (Lit.int .i64 n).wf = true) (w : World) :
    Calls Try.prog 77 #[.int .i64 k, .int .i64 n] w fun e w' => e = .returned (.tuple #[.bool (mayF k n), .bool (isK k)]) ∧ w' = w := by
  by_cases h : k < 0 ∨ 11 < k
  · exact may_no k n h w
  by_cases h1 : k = 1
  · subst h1; exact may_int n w
  by_cases h8 : k = 8
  · subst h8; exact may_nil n w
  by_cases h0 : k = 0
  · subst h0; exact may_nothing n w
  by_cases h10 : k = 10
  · subst h10; exact may_head n w
  by_cases h11 : k = 11
  · subst h11; exact may_fun n hn w
  exact may_num k n (by omega) w

theorem mul16 (n k : Int) (h0 : 0 ≤ k) (h1 : k < 12) : IntKind.u64.wrap (IntKind.u64.wrap (IntKind.u64.wrap n * 16) + k) = n % 1152921504606846976 * 16 + k := by
  simp only [IntKind.wrap, IntKind.bits, IntKind.signed]
  simp
  omega

set_option maxHeartbeats 4000000 in
theorem rpack_any (k n : Int) (hn : (Lit.int .i64 n).wf = true) (w : World) :
    Calls Try.prog 66 #[.int .i64 k, .int .i64 n] w fun e w' => e = .returned (.tuple #[.int .u64 (packW k n), .int .i64 (packE k n)]) ∧ w' = w := by
  by_cases hK : isK k = true
  · by_cases hf : fits k n = true
    · have e1 : packW k n = n % 1152921504606846976 * 16 + k := by unfold packW; rw [if_pos ⟨hK, hf⟩]
      have e2 : packE k n = 0 := by unfold packE; rw [if_pos hK, if_pos hf]
      have e3 : mayF k n = true := by simp [mayF, hK, hf]
      have E1 := Lib.hid e1; have E2 := Lib.hid e2; clear e1 e2 hf
      have hkk : 0 ≤ k ∧ k < 12 := by simpa [isK] using hK
      obtain ⟨hk0, hk1⟩ := hkk
      go_enter Try.func66, Try.ntmps66
      go_wp2_with (go_at_call 77; refine (may_any _ _ hn _).mono ?_; rintro e w1 ⟨rfl, rfl⟩)
      go_ret2
      exact ⟨ret2_ii (by rw [E1.out]; exact mul16 n k hk0 hk1) E2.out.symm, rfl⟩
    · have e1 : packW k n = 0 := by unfold packW; rw [if_neg (fun h => hf h.2)]
      have e2 : packE k n = 5 := by unfold packE; rw [if_pos hK, if_neg hf]
      have e3 : mayF k n = false := by simp [mayF, hf]
      have E1 := Lib.hid e1; have E2 := Lib.hid e2; clear e1 e2 hf
      go_enter Try.func66, Try.ntmps66
      go_wp2_with (go_at_call 77; refine (may_any _ _ hn _).mono ?_; rintro e w1 ⟨rfl, rfl⟩)
      go_ret2
      exact ⟨ret2_ii E1.out.symm E2.out.symm, rfl⟩
  · have e1 : packW k n = 0 := by unfold packW; rw [if_neg (fun h => hK h.1)]
    have e2 : packE k n = 2 := by unfold packE; rw [if_neg hK]
    have E1 := Lib.hid e1; have E2 := Lib.hid e2; clear e1 e2
    have hK' : isK k = false := by simpa using hK
    clear hK
    go_enter Try.func66, Try.ntmps66
    go_wp2_with (go_at_call 77; refine (may_any _ _ hn _).mono ?_; rintro e w1 ⟨rfl, rfl⟩)
    go_ret2
    exact ⟨ret2_ii E1.out.symm E2.out.symm, rfl⟩

theorem fits_un (x : Int) (h0 : 0 ≤ x) (h1 : x < 18446744073709551616) : mayF (x % 16) (wordN x) = decide (unE x = 0) := by
  rw [Bool.eq_iff_iff]
  unfold mayF unE
  by_cases a : isK (x % 16) = true ∧ fits (x % 16) (wordN x) = true
  · rw [if_pos a]; simp [a.1, a.2]
  · rw [if_neg a]
    simp only [Bool.and_eq_true, decide_eq_true_eq]
    constructor
    · intro h; exact absurd h a
    · intro h; omega

set_option maxHeartbeats 4000000 in
theorem runpack_any (x : Int) (h0 : 0 ≤ x) (h1 : x < 18446744073709551616) (w : World) :
    Calls Try.prog 68 #[.int .u64 x] w fun e w' => e = .returned (.tuple #[.int .i64 (unK x), .int .i64 (unN x), .int .i64 (unE x)]) ∧ w' = w := by
  have hr : 0 ≤ x % 16 := by omega
  have hr' : x % 16 ≤ 15 := by omega
  have hfit := fits_un x h0 h1
  have wfn : (Lit.int .i64 (wordN x)).wf = true := WalkArith.wf_i64 (by unfold wordN; split <;> omega)
  have ew : wordN x = if x % 16 = 1 ∧ 576460752303423487 < x / 16 then x / 16 - 1152921504606846976 else x / 16 := rfl
  have q0 : 0 ≤ x / 16 := by omega
  have q1 : x / 16 ≤ 1152921504606846975 := by omega
  by_cases hu : unE x = 0
  · have e1 : unK x = x % 16 := by unfold unK; rw [if_pos hu]
    have e2 : unN x = wordN x := by unfold unN; rw [if_pos hu]
    have hm : mayF (x % 16) (wordN x) = true := by rw [hfit]; simp [hu]
    have E0 := Lib.hid hu; have E1 := Lib.hid e1; have E2 := Lib.hid e2
    clear hfit hu e1 e2
    by_cases c : x % 16 = 1
    · rw [c] at hm E1
      by_cases d : 576460752303423487 < x / 16
      · rw [if_pos ⟨c, d⟩] at ew
        rw [ew] at hm wfn E2
        clear ew
        go_enter Try.func68, Try.ntmps68
        go_wp2_with (go_at_call 77; refine (may_any _ _ wfn _).mono ?_; rintro e w1 ⟨rfl, rfl⟩)
        go_ret3
        exact ⟨ret3_iii E1.out.symm E2.out.symm E0.out.symm, rfl⟩
      · rw [if_neg (fun h => d h.2)] at ew
        rw [ew] at hm wfn E2
        clear ew
        go_enter Try.func68, Try.ntmps68
        go_wp2_with (go_at_call 77; refine (may_any _ _ wfn _).mono ?_; rintro e w1 ⟨rfl, rfl⟩)
        go_ret3
        exact ⟨ret3_iii E1.out.symm E2.out.symm E0.out.symm, rfl⟩
    · rw [if_neg (fun h => c h.1)] at ew
      rw [ew] at hm wfn E2
      have c' : (x % 16 == 1) = false := by simpa using c
      clear ew c
      go_enter Try.func68, Try.ntmps68
      go_wp2_with (go_at_call 77; refine (may_any _ _ wfn _).mono ?_; rintro e w1 ⟨rfl, rfl⟩)
      go_ret3
      exact ⟨ret3_iii E1.out.symm E2.out.symm E0.out.symm, rfl⟩
  · have e0 : unE x = 4 := by unfold unE at hu ⊢; split <;> simp_all
    have e1 : unK x = 0 := by unfold unK; rw [if_neg hu]
    have e2 : unN x = 0 := by unfold unN; rw [if_neg hu]
    have hm : mayF (x % 16) (wordN x) = false := by rw [hfit]; simp [hu]
    have E0 := Lib.hid e0; have E1 := Lib.hid e1; have E2 := Lib.hid e2
    clear hfit hu e0 e1 e2
    by_cases c : x % 16 = 1
    · rw [c] at hm
      by_cases d : 576460752303423487 < x / 16
      · rw [if_pos ⟨c, d⟩] at ew
        rw [ew] at hm wfn
        clear ew
        go_enter Try.func68, Try.ntmps68
        go_wp2_with (go_at_call 77; refine (may_any _ _ wfn _).mono ?_; rintro e w1 ⟨rfl, rfl⟩)
        go_ret3
        exact ⟨ret3_iii E1.out.symm E2.out.symm E0.out.symm, rfl⟩
      · rw [if_neg (fun h => d h.2)] at ew
        rw [ew] at hm wfn
        clear ew
        go_enter Try.func68, Try.ntmps68
        go_wp2_with (go_at_call 77; refine (may_any _ _ wfn _).mono ?_; rintro e w1 ⟨rfl, rfl⟩)
        go_ret3
        exact ⟨ret3_iii E1.out.symm E2.out.symm E0.out.symm, rfl⟩
    · rw [if_neg (fun h => c h.1)] at ew
      rw [ew] at hm wfn
      have c' : (x % 16 == 1) = false := by simpa using c
      clear ew c
      go_enter Try.func68, Try.ntmps68
      go_wp2_with (go_at_call 77; refine (may_any _ _ wfn _).mono ?_; rintro e w1 ⟨rfl, rfl⟩)
      go_ret3
      exact ⟨ret3_iii E1.out.symm E2.out.symm E0.out.symm, rfl⟩

set_option maxHeartbeats 4000000 in
theorem rboxed_any (x : Int) (h0 : 0 ≤ x) (h1 : x < 18446744073709551616) (w : World) :
    Calls Try.prog 69 #[.int .u64 x] w fun e w' => e = .returned (.bool (boxd x)) ∧ w' = w := by
  have hr : 0 ≤ x % 16 := by omega
  have hr' : x % 16 ≤ 15 := by omega
  have ew : boxd x = decide (x % 16 = 7 ∨ x % 16 = 9 ∨ x % 16 = 5) := rfl
  rw [ew]; clear ew
  by_cases a : x % 16 = 7
  · rw [a]
    go_enter Try.func69, Try.ntmps69
    go_wp2
    go_ret
    exact ⟨ret1_b rfl, rfl⟩
  by_cases b : x % 16 = 9
  · rw [b]
    clear a
    go_enter Try.func69, Try.ntmps69
    go_wp2
    go_ret
    exact ⟨ret1_b rfl, rfl⟩
  by_cases c : x % 16 = 5
  · rw [c]
    clear a b
    go_enter Try.func69, Try.ntmps69
    go_wp2
    go_ret
    exact ⟨ret1_b rfl, rfl⟩
  have e : decide (x % 16 = 7 ∨ x % 16 = 9 ∨ x % 16 = 5) = false := by simp [a, b, c]
  rw [e]
  have a' : (x % 16 == 7) = false := by simpa using a
  have b' : (x % 16 == 9) = false := by simpa using b
  have c' : (x % 16 == 5) = false := by simpa using c
  clear e a b c
  go_enter Try.func69, Try.ntmps69
  go_wp2
  go_ret
  exact ⟨ret1_b rfl, rfl⟩
end Go.Proofs.Ytfcialleekfjmaa.Wd
