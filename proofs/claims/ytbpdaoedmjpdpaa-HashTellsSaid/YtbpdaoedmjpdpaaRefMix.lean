/- The document's Mix and Bucket, by their contracts. -/
import Derived.Test.YtbpdaoedmjpdpaaHashOps
namespace Go.Proofs.Ytbpdaoedmjpdpaa.Hs
open Go.RowKit K Ar
set_option linter.unusedVariables false
set_option linter.unusedSimpArgs false

set_option maxRecDepth 100000 in
set_option maxHeartbeats 4000000 in
theorem rmix_any (bs : List B8) (h : Int) (B : Nat) (A : Option Addr) (c : Nat) (w : World) (h0 : 0 ≤ h ∧ h ≤ 4294967295) (hr : Reads w B 1 A bs.length (encs8 bs)) (hl : bs.length < 9223372036854775807) :
    Calls Try.prog 12 #[.int .u32 h, .slice A bs.length c] w fun e w' => e = .returned (.int .u32 (mixL h bs)) ∧ w = w' := by
  go_enter Try.func12, Try.ntmps12
  go_wp2_with fail
  go_loop [0, 5] (fun x i => ∃ k : Nat, k ≤ bs.length ∧ i = .int .i64 (k : Int) ∧ x = .int .u32 (mixL h (bs.take k))) (fun _ i => bs.length - (intOf i).toNat)
  case atStart => exact ⟨0, Nat.zero_le _, rfl, rfl⟩
  case round =>
    obtain ⟨k, hk, rfl, rfl⟩ := hrel
    by_cases hlt : k < bs.length
    · obtain ⟨x, hx⟩ : ∃ x, bs[k]? = some x := ⟨_, List.getElem?_eq_getElem hlt⟩
      obtain ⟨ad, u, rfl, _, hu, hc⟩ := hr.at_ hlt
      rw [encs8_at hx] at hu
      injection hu with hu
      subst hu
      have HM := Lib.hid (mixL_take_succ hx h)
      obtain ⟨y, hy⟩ : ∃ y, mixL h (bs.take k) = y := ⟨_, rfl⟩
      have hyr := mixL_range (bs.take k) h0
      rw [hy] at HM hyr ⊢
      have x0 := x.2.1
      have x1 := x.2.2
      obtain ⟨y0, y1⟩ := hyr
      clear hy hx hr
      go_wp2_with fail
      go_round
      case rel => exact ⟨k + 1, by omega, by go_num, by rw [HM.out]; first | rfl | (unfold mixI; rfl)⟩
      case measure => simp [intOf]; omega
    · obtain rfl : k = bs.length := by omega
      rw [List.take_length]
      go_wp2_with fail
      go_ret
      exact ⟨rfl, rfl⟩

set_option maxRecDepth 100000 in
set_option maxHeartbeats 4000000 in
theorem rbucket_any (h b : Int) (w : World) (h0 : 0 ≤ h) (h1 : h ≤ 4294967295) : Calls Try.prog 10 #[.int .u32 h, .int .i64 b] w fun e w' => e = .returned (.tuple #[.int .i64 (bktV h b), .int .i64 (bktE b)]) ∧ w = w' := by
  by_cases b1 : b < 1
  · go_enter Try.func10, Try.ntmps10
    go_wp2_with fail
    go_ret2
    exact ⟨ret2_ii (by unfold bktV; rw [if_pos (.inl b1)]) (by unfold bktE; rw [if_pos (.inl b1)]), rfl⟩
  by_cases b2 : 1048576 < b
  · go_enter Try.func10, Try.ntmps10
    go_wp2_with fail
    go_ret2
    exact ⟨ret2_ii (by unfold bktV; rw [if_pos (.inr b2)]) (by unfold bktE; rw [if_pos (.inr b2)]), rfl⟩
  obtain ⟨k, rfl⟩ : ∃ k : Nat, b = (k : Int) := ⟨b.toNat, by omega⟩
  have E2 := Lib.hid (show (0 : Int) = bktE (k : Int) from by unfold bktE; rw [if_neg (by omega)])
  have EV := Lib.hid (show bktV h (k : Int) = bktI h (k : Int) from by unfold bktV; rw [if_neg (by omega)])
  go_enter Try.func10, Try.ntmps10
  go_wp2_with fail
  go_loop [6] (fun m => ∃ j q : Nat, q = 2 ^ j ∧ q ≤ 1048576 ∧ m = .int .i64 (q : Int) ∧ 1 ≤ q ∧ ∀ i, 2 ^ i < 2 ^ j → 2 ^ i < k) (fun m => 2 * k - (intOf m).toNat)
  case atStart => exact ⟨0, 1, rfl, by omega, rfl, by omega, fun i hi => by have := Nat.two_pow_pos i; omega⟩
  case round =>
    obtain ⟨j, q, hq, hq2, rfl, hq1, hm⟩ := hrel
    by_cases hlt : q < k
    · have HQ := Lib.hid hq
      have HM := Lib.hid hm
      clear hq hm
      go_wp2_with fail
      go_round
      case rel =>
        refine ⟨j + 1, 2 * q, by rw [HQ.out, Nat.pow_succ]; omega, ?_, by go_num, by omega, fun i hi => ?_⟩
        · rcases Nat.lt_or_ge 1048576 (2 * q) with hx | hx
          · have h20 : 2 ^ j < 2 ^ 20 := by rw [← HQ.out]; omega
            have h3 := (Nat.pow_lt_pow_iff_right (a := 2) (by decide)).1 h20
            have h4 := Nat.pow_le_pow_right (n := 2) (by decide) (show j + 1 ≤ 20 by omega)
            rw [Nat.pow_succ, ← HQ.out] at h4
            omega
          · exact hx
        · have h3 : i < j + 1 := (Nat.pow_lt_pow_iff_right (by decide)).1 hi
          have h4 := Nat.pow_le_pow_right (n := 2) (by decide) (show i ≤ j by omega)
          rw [← HQ.out] at h4
          omega
      case measure => simp [intOf]; omega
    · have hpw : pw k = q := by rw [hq]; exact pw_uniq (by omega) (by omega) (by omega) hm
      have hhalf := fun hlt => pw_half (b := k) (by omega) (by omega) hlt
      rw [hpw] at hhalf
      clear hq hm
      have hmod : h % (q : Int) = ((h.toNat % q : Nat) : Int) := by
        rw [Int.natCast_emod]; congr 1; omega
      have hml : h.toNat % q < q := Nat.mod_lt _ (by omega)
      obtain ⟨x, hx⟩ : ∃ x, h.toNat % q = x := ⟨_, rfl⟩
      rw [hx] at hmod hml
      have hmt : Int.tmod h (q : Int) = (x : Int) := by rw [Int.tmod_eq_emod_of_nonneg h0]; exact hmod
      have hqz : ((q : Int) == 0) = false := by simp; omega
      by_cases hc : (x : Int) < (k : Int)
      · have E1 := Lib.hid (show (x : Int) = bktV h (k : Int) from by rw [EV.out]; unfold bktI; rw [Int.toNat_natCast, hpw, hmod, if_pos hc])
        clear hhalf hx hpw
        go_wp2_with fail
        go_ret2
        exact ⟨ret2_ii E1.out E2.out, rfl⟩
      · obtain ⟨r, e1, e2, e3, _⟩ := hhalf (by omega)
        have hr : (q : Int) / 2 = (r : Int) := by omega
        have hrt : Int.tdiv (q : Int) 2 = (r : Int) := by rw [Int.tdiv_eq_ediv_of_nonneg (by omega)]; exact hr
        have hrz : ((r : Int) == 0) = false := by simp; omega
        have E1 := Lib.hid (show ((h.toNat % r : Nat) : Int) = bktV h (k : Int) from by
          rw [EV.out]; unfold bktI
          rw [Int.toNat_natCast, hpw, hmod, if_neg hc, hr]
          rw [Int.natCast_emod]; congr 1; omega)
        have hm3 : Int.tmod h (r : Int) = ((h.toNat % r : Nat) : Int) := by rw [Int.tmod_eq_emod_of_nonneg h0, Int.natCast_emod]; congr 1; omega
        have hxr : h.toNat % r < r := Nat.mod_lt _ (by omega)
        obtain ⟨y, hy⟩ : ∃ y, h.toNat % r = y := ⟨_, rfl⟩
        rw [hy] at E1 hm3 hxr
        clear hhalf hx hpw hy e1
        go_wp2_with fail
        go_ret2
        exact ⟨ret2_ii E1.out E2.out, rfl⟩
end Go.Proofs.Ytbpdaoedmjpdpaa.Hs
