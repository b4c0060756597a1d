/- hash.Bucket and the document's Bucket, by their contracts (no terms in sight). -/
import Derived.Test.YtjipncpplpfobaaLawKit
import Derived.Test.YtjipncpplpfobaaRows2
import Derived.Test.YtjipncpplpfobaaBitsLen
import Derived.Test.YtjipncpplpfobaaBucketSpec
import Derived.Outline
import Derived.WalkLawsBesides
import Derived.WalkSpells
namespace Go.Proofs.Ytjipncpplpfobaa.Hs
open Go.RowKit K Ar
set_option linter.unusedVariables false
set_option linter.unusedSimpArgs false

/-! ### Bucket -/
set_option maxRecDepth 100000 in
set_option maxHeartbeats 4000000 in
theorem bucket_any (h b : Int) (w : World) (h0 : 0 ≤ h) (h1 : h ≤ 4294967295) : Calls Try.prog 43 #[.int .u32 h, .int .i64 b] w fun e w' => e = .returned (.tuple #[.int .i64 (bktV h b), .int .i64 (bktE b)]) ∧ w = w' := by
  by_cases b1 : b < 1
  · go_enter Try.func43, Try.ntmps43
    go_wp2_with fail
    go_ret2
    exact ⟨ret2_ii (by unfold bktV; rw [if_pos (.inl b1)]) (by unfold bktE; rw [if_pos (.inl b1)]), rfl⟩
  by_cases b2 : 1048576 < b
  · go_enter Try.func43, Try.ntmps43
    go_wp2_with fail
    go_ret2
    exact ⟨ret2_ii (by unfold bktV; rw [if_pos (.inr b2)]) (by unfold bktE; rw [if_pos (.inr b2)]), rfl⟩
  obtain ⟨k, rfl⟩ : ∃ k : Nat, b = (k : Int) := ⟨b.toNat, by omega⟩
  have E2 := Lib.hid (show (0 : Int) = bktE (k : Int) from by unfold bktE; rw [if_neg (by omega)])
  have EV : bktV h (k : Int) = bktI h (k : Int) := by unfold bktV; rw [if_neg (by omega)]
  obtain ⟨a1, a2, a3⟩ := pw_is (b := k) (by omega) (by omega)
  obtain ⟨L, hL⟩ : ∃ L, Lib.bitLen (k - 1) = L := ⟨_, rfl⟩
  have hL2 : ((k : Int) - 1).toNat = k - 1 := by omega
  have HL := Lib.hid (fun w => (Sh.bits_Len ((k : Int) - 1) w (by omega) (by omega)).mono (R' := fun e w' => e = .returned (.int .i64 (L : Int)) ∧ w = w') fun e w' h => by rw [hL2, hL] at h; exact h)
  obtain ⟨q, hq⟩ : ∃ q, pw k = q := ⟨_, rfl⟩
  have eq0 : 2 ^ L = q := by rw [← hq, ← hL]; rfl
  have hw : (2 : Int) ^ L % 4294967296 = (q : Int) := by
    have e : ((2 : Int) ^ L) = (q : Int) := by rw [← eq0]; simp
    rw [e, Int.emod_eq_of_lt (by omega) (by omega)]
  have hL20 : L ≤ 20 := by
    rcases Nat.lt_or_ge 20 L with h | h
    · have := Nat.pow_lt_pow_right (a := 2) (by decide) h
      omega
    · exact h
  have hhalf := fun hlt => pw_half (b := k) (by omega) (by omega) hlt
  rw [hq] at a1 a2 hhalf
  have hmod : h % (q : Int) = ((h.toNat % q : Nat) : Int) := by
    rw [Int.natCast_emod]; congr 1; omega
  have hml : h.toNat % q < q := Nat.mod_lt _ (by omega)
  obtain ⟨x, hx⟩ : ∃ x, h.toNat % q = x := ⟨_, rfl⟩
  rw [hx] at hmod hml
  have hq0 : (0 : Int) < (q : Int) := by omega
  have hqz : ((q : Int) == 0) = false := by simp; omega
  by_cases hc : (x : Int) < (k : Int)
  · have E1 := Lib.hid (show (x : Int) = bktV h (k : Int) from by rw [EV]; unfold bktI; rw [Int.toNat_natCast, hq, hmod, if_pos hc])
    clear EV hhalf hx eq0 hL hL2
    go_enter Try.func43, Try.ntmps43
    go_wp2_with fail
    refine (HL.out _).mono ?_
    rintro e w1 ⟨rfl, rfl⟩
    go_wp2_with fail
    go_ret2
    exact ⟨ret2_ii E1.out E2.out, rfl⟩
  · obtain ⟨r, e1, e2, e3, j, e4⟩ := hhalf (by omega)
    have hr : (q : Int) / 2 = (r : Int) := by omega
    have hand := and_mask x j (by omega) (by rw [← e4]; omega)
    rw [← e4] at hand
    have E1 := Lib.hid (show ((x % r : Nat) : Int) = bktV h (k : Int) from by
      rw [EV]; unfold bktI
      rw [Int.toNat_natCast, hq, hmod, if_neg hc, hr]
      have h5 := mod_mod_half h (r : Int) (by omega)
      rw [← h5, show 2 * (r : Int) = (q : Int) from by omega, hmod, Int.natCast_emod])
    have hxr : ((x % r : Nat) : Int) ≤ 1048576 := by have := Nat.mod_lt x (show r > 0 by omega); omega
    obtain ⟨y, hy⟩ : ∃ y, x % r = y := ⟨_, rfl⟩
    rw [hy] at hand E1 hxr
    have hand2 : bits .and .u32 (x : Int) ((r : Int) - 1) = (y : Int) := by rw [← hand, Int.emod_eq_of_lt (by omega) (by omega)]
    have r1 : (1 : Int) ≤ (r : Int) := by omega
    clear EV hhalf hx eq0 hL hL2 e4 hy e1
    go_enter Try.func43, Try.ntmps43
    go_wp2_with fail
    refine (HL.out _).mono ?_
    rintro e w1 ⟨rfl, rfl⟩
    go_wp2_with fail
    go_ret2
    exact ⟨ret2_ii E1.out E2.out, rfl⟩

set_option maxRecDepth 100000 in
set_option maxHeartbeats 4000000 in
theorem rbucket_any (h b : Int) (w : World) (h0 : 0 ≤ h) (h1 : h ≤ 4294967295) : Calls Try.prog 47 #[.int .u32 h, .int .i64 b] w fun e w' => e = .returned (.tuple #[.int .i64 (bktV h b), .int .i64 (bktE b)]) ∧ w = w' := by
  by_cases b1 : b < 1
  · go_enter Try.func47, Try.ntmps47
    go_wp2_with fail
    go_ret2
    exact ⟨ret2_ii (by unfold bktV; rw [if_pos (.inl b1)]) (by unfold bktE; rw [if_pos (.inl b1)]), rfl⟩
  by_cases b2 : 1048576 < b
  · go_enter Try.func47, Try.ntmps47
    go_wp2_with fail
    go_ret2
    exact ⟨ret2_ii (by unfold bktV; rw [if_pos (.inr b2)]) (by unfold bktE; rw [if_pos (.inr b2)]), rfl⟩
  obtain ⟨k, rfl⟩ : ∃ k : Nat, b = (k : Int) := ⟨b.toNat, by omega⟩
  have E2 := Lib.hid (show (0 : Int) = bktE (k : Int) from by unfold bktE; rw [if_neg (by omega)])
  have EV := Lib.hid (show bktV h (k : Int) = bktI h (k : Int) from by unfold bktV; rw [if_neg (by omega)])
  go_enter Try.func47, Try.ntmps47
  go_wp2_with fail
  go_loop [6] (fun m => ∃ j q : Nat, q = 2 ^ j ∧ q ≤ 1048576 ∧ m = .int .i64 (q : Int) ∧ 1 ≤ q ∧ ∀ i, 2 ^ i < 2 ^ j → 2 ^ i < k) (fun m => 2 * k - (intOf m).toNat)
  case atStart => exact ⟨0, 1, rfl, by omega, rfl, by omega, fun i hi => by have := Nat.two_pow_pos i; omega⟩
  case round =>
    obtain ⟨j, q, hq, hq2, rfl, hq1, hm⟩ := hrel
    by_cases hlt : q < k
    · have HQ := Lib.hid hq
      have HM := Lib.hid hm
      clear hq hm
      go_wp2_with fail
      go_round
      case rel =>
        refine ⟨j + 1, 2 * q, by rw [HQ.out, Nat.pow_succ]; omega, ?_, by go_num, by omega, fun i hi => ?_⟩
        · rcases Nat.lt_or_ge 1048576 (2 * q) with hx | hx
          · have h20 : 2 ^ j < 2 ^ 20 := by rw [← HQ.out]; omega
            have h3 := (Nat.pow_lt_pow_iff_right (a := 2) (by decide)).1 h20
            have h4 := Nat.pow_le_pow_right (n := 2) (by decide) (show j + 1 ≤ 20 by omega)
            rw [Nat.pow_succ, ← HQ.out] at h4
            omega
          · exact hx
        · have h3 : i < j + 1 := (Nat.pow_lt_pow_iff_right (by decide)).1 hi
          have h4 := Nat.pow_le_pow_right (n := 2) (by decide) (show i ≤ j by omega)
          rw [← HQ.out] at h4
          omega
      case measure => simp [intOf]; omega
    · have hpw : pw k = q := by rw [hq]; exact pw_uniq (by omega) (by omega) (by omega) hm
      have hhalf := fun hlt => pw_half (b := k) (by omega) (by omega) hlt
      rw [hpw] at hhalf
      clear hq hm
      have hmod : h % (q : Int) = ((h.toNat % q : Nat) : Int) := by
        rw [Int.natCast_emod]; congr 1; omega
      have hml : h.toNat % q < q := Nat.mod_lt _ (by omega)
      obtain ⟨x, hx⟩ : ∃ x, h.toNat % q = x := ⟨_, rfl⟩
      rw [hx] at hmod hml
      have hmt : Int.tmod h (q : Int) = (x : Int) := by rw [Int.tmod_eq_emod_of_nonneg h0]; exact hmod
      have hqz : ((q : Int) == 0) = false := by simp; omega
      by_cases hc : (x : Int) < (k : Int)
      · have E1 := Lib.hid (show (x : Int) = bktV h (k : Int) from by rw [EV.out]; unfold bktI; rw [Int.toNat_natCast, hpw, hmod, if_pos hc])
        clear hhalf hx hpw
        go_wp2_with fail
        go_ret2
        exact ⟨ret2_ii E1.out E2.out, rfl⟩
      · obtain ⟨r, e1, e2, e3, _⟩ := hhalf (by omega)
        have hr : (q : Int) / 2 = (r : Int) := by omega
        have hrt : Int.tdiv (q : Int) 2 = (r : Int) := by rw [Int.tdiv_eq_ediv_of_nonneg (by omega)]; exact hr
        have hrz : ((r : Int) == 0) = false := by simp; omega
        have E1 := Lib.hid (show ((h.toNat % r : Nat) : Int) = bktV h (k : Int) from by
          rw [EV.out]; unfold bktI
          rw [Int.toNat_natCast, hpw, hmod, if_neg hc, hr]
          rw [Int.natCast_emod]; congr 1; omega)
        have hm3 : Int.tmod h (r : Int) = ((h.toNat % r : Nat) : Int) := by rw [Int.tmod_eq_emod_of_nonneg h0, Int.natCast_emod]; congr 1; omega
        have hxr : h.toNat % r < r := Nat.mod_lt _ (by omega)
        obtain ⟨y, hy⟩ : ∃ y, h.toNat % r = y := ⟨_, rfl⟩
        rw [hy] at E1 hm3 hxr
        clear hhalf hx hpw hy e1
        go_wp2_with fail
        go_ret2
        exact ⟨ret2_ii E1.out E2.out, rfl⟩
end Go.Proofs.Ytjipncpplpfobaa.Hs
