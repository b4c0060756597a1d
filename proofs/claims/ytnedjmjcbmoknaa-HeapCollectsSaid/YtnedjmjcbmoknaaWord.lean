/- The package word's functions, each by its contract. -/
import Derived.Test.YtnedjmjcbmoknaaWordMost
import Derived.Laws.BitsAllLaws
namespace Go.Proofs.Ytnedjmjcbmoknaa.Wd
open Go.RowKit K
set_option linter.unusedVariables false
set_option linter.unusedSimpArgs false

theorem or16 (n k : Int) (h0 : 0 ≤ k) (h1 : k < 16) : bits BinOp.or IntKind.u64 (IntKind.u64.wrap (IntKind.u64.wrap n * 16)) k = n % 1152921504606846976 * 16 + k := by
  have e : IntKind.u64.wrap (IntKind.u64.wrap n * 16) = n % 1152921504606846976 * 16 := by
    simp only [IntKind.wrap, IntKind.bits, IntKind.signed]
    simp
    omega
  rw [e, u64_or _ _ (by omega) (by omega) (by omega) (by omega), nat_join 4 _ _ (by omega) (by omega)]
  omega

set_option maxHeartbeats 4000000 in
theorem pack_any (k n : Int) (hk : (Lit.int .i64 k).wf = true) (hn : (Lit.int .i64 n).wf = true) (w : World) :
    Calls Try.prog 36 #[.int .i64 k, .int .i64 n] w fun e w' => e = .returned (.tuple #[.int .u64 (packW k n), .int .i64 (packE k n)]) ∧ Below w.heap.size w w' := by
  by_cases hK : isK k = true
  · have hkk : 0 ≤ k ∧ k < 12 := by simpa [isK] using hK
    obtain ⟨hk0, hk1⟩ := hkk
    by_cases hf : fits k n = true
    · have e1 : packW k n = n % 1152921504606846976 * 16 + k := by unfold packW; rw [if_pos ⟨hK, hf⟩]
      have e2 : packE k n = 0 := by unfold packE; rw [if_pos hK, if_pos hf]
      have E1 := Lib.hid e1; have E2 := Lib.hid e2; clear e1 e2
      have hf' := hf
      simp only [fits, decide_eq_true_eq] at hf'
      clear hf
      by_cases h1 : k = 1
      · subst h1
        simp only [low, high, if_true] at hf'
        have hl : -576460752303423488 ≤ n := by omega
        have hh : n ≤ 576460752303423487 := by omega
        clear hf'
        go_enter Try.func36, Try.ntmps36
        go_wp2_with (go_at_call 55; refine (most_any _ _).mono ?_; rintro e w1 ⟨rfl, hb⟩)
        go_ret2
        exact ⟨ret2_ii (by rw [E1.out]; exact or16 n 1 (by omega) (by omega)) E2.out.symm, hb⟩
      · simp only [low, high, if_neg h1] at hf'
        have hl : 0 ≤ n := by omega
        have hh : n ≤ mostV k := by omega
        have hk1' : (k == 1) = false := by simpa using h1
        by_cases h11 : k = 11
        · subst h11
          have hm : n % 128 ≤ 64 := by omega
          clear hf'
          go_enter Try.func36, Try.ntmps36
          go_wp2_with (go_at_call 55; refine (most_any _ _).mono ?_; rintro e w1 ⟨rfl, hb⟩)
          go_ret2
          exact ⟨ret2_ii (by rw [E1.out]; exact or16 n 11 (by omega) (by omega)) E2.out.symm, hb⟩
        · have hk11' : (k == 11) = false := by simpa using h11
          clear hf'
          go_enter Try.func36, Try.ntmps36
          go_wp2_with (go_at_call 55; refine (most_any _ _).mono ?_; rintro e w1 ⟨rfl, hb⟩)
          go_ret2
          exact ⟨ret2_ii (by rw [E1.out]; exact or16 n k (by omega) (by omega)) E2.out.symm, hb⟩
    · have e1 : packW k n = 0 := by unfold packW; rw [if_neg (fun h => hf h.2)]
      have e2 : packE k n = 5 := by unfold packE; rw [if_pos hK, if_neg hf]
      have E1 := Lib.hid e1; have E2 := Lib.hid e2; clear e1 e2
      have hf' := hf
      simp only [fits, decide_eq_true_eq] at hf'
      clear hf
      by_cases h1 : k = 1
      · subst h1
        simp only [low, high, if_true] at hf'
        by_cases hl : n < -576460752303423488
        · clear hf'
          go_enter Try.func36, Try.ntmps36
          go_wp2_with (go_at_call 55; refine (most_any _ _).mono ?_; rintro e w1 ⟨rfl, hb⟩)
          go_ret2
          exact ⟨ret2_ii E1.out.symm E2.out.symm, hb⟩
        · have hh : 576460752303423487 < n := by omega
          clear hf'
          go_enter Try.func36, Try.ntmps36
          go_wp2_with (go_at_call 55; refine (most_any _ _).mono ?_; rintro e w1 ⟨rfl, hb⟩)
          go_ret2
          exact ⟨ret2_ii E1.out.symm E2.out.symm, hb⟩
      · simp only [low, high, if_neg h1] at hf'
        have hk1' : (k == 1) = false := by simpa using h1
        by_cases hl : n < 0
        · clear hf'
          go_enter Try.func36, Try.ntmps36
          go_wp2_with (go_at_call 55; refine (most_any _ _).mono ?_; rintro e w1 ⟨rfl, hb⟩)
          go_ret2
          exact ⟨ret2_ii E1.out.symm E2.out.symm, hb⟩
        · by_cases hh : mostV k < n
          · clear hf'
            go_enter Try.func36, Try.ntmps36
            go_wp2_with (go_at_call 55; refine (most_any _ _).mono ?_; rintro e w1 ⟨rfl, hb⟩)
            go_ret2
            exact ⟨ret2_ii E1.out.symm E2.out.symm, hb⟩
          · have h11 : k = 11 := by
              by_cases h : k = 11
              · exact h
              · exact absurd ⟨by omega, by omega, fun h' => absurd h' h⟩ hf'
            subst h11
            have hm : 64 < n % 128 := by omega
            have hl' : 0 ≤ n := by omega
            clear hf'
            go_enter Try.func36, Try.ntmps36
            go_wp2_with (go_at_call 55; refine (most_any _ _).mono ?_; rintro e w1 ⟨rfl, hb⟩)
            go_ret2
            exact ⟨ret2_ii E1.out.symm E2.out.symm, hb⟩
  · have e1 : packW k n = 0 := by unfold packW; rw [if_neg (fun h => hK h.1)]
    have e2 : packE k n = 2 := by unfold packE; rw [if_neg hK]
    have E1 := Lib.hid e1; have E2 := Lib.hid e2; clear e1 e2
    have h1 : (k == 1) = false := by
      simp [isK] at hK
      simp; omega
    have hK' : isK k = false := by simpa using hK
    clear hK
    go_enter Try.func36, Try.ntmps36
    go_wp2_with (go_at_call 55; refine (most_any _ _).mono ?_; rintro e w1 ⟨rfl, hb⟩)
    go_ret2
    exact ⟨ret2_ii E1.out.symm E2.out.symm, hb⟩
end Go.Proofs.Ytnedjmjcbmoknaa.Wd
