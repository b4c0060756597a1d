/- need and tenureref13, walked: Object, Node, Table, Buckets, Put, Sum, each by its contract. -/
import Derived.Test.YtofinjkgbbdbcaaNeedSpec
import Derived.Test.YtofinjkgbbdbcaaRounds
import Derived.Test.YtofinjkgbbdbcaaCheck
import Derived.Test.YtofinjkgbbdbcaaRefTm
import Derived.Test.YtofinjkgbbdbcaaWords
import Derived.Test.YtofinjkgbbdbcaaRows2
namespace Go.Proofs.Ytofinjkgbbdbcaa.Nd
open Go.RowKit K Ar
set_option linter.unusedVariables false
set_option linter.unusedSimpArgs false

theorem bdrewN {B : Nat} {w w' : World} (h : Below B w w') (n : Nat) : Below B w (w'.drewN n) := ⟨h.os, h.tape, h.output, h.size, h.block⟩

set_option maxRecDepth 100000 in
set_option maxHeartbeats 4000000 in
theorem kinds_any (k : Int) (w : World) : Calls Try.prog 39 #[.int .i64 k] w fun e w' => e = .returned (.tuple #[.int .i64 (tableK k), .int .i64 (nodeK k)]) ∧ Below w.heap.size w w' := by
  have HB := Lib.hid (fun o => ballocs (Below.refl w.heap.size w) o)
  by_cases h0 : k < 0
  · have E1 := Lib.hid (show (0 : Int) = tableK k from by unfold tableK; rw [if_neg (by omega)])
    have E2 := Lib.hid (show (0 : Int) = nodeK k from by unfold nodeK; rw [if_neg (by omega), if_neg (by omega)])
    go_enter Try.func39, Try.ntmps39
    go_wp2_with fail
    go_ret2
    exact ⟨ret2_ii E1.out E2.out, HB.out _⟩
  · by_cases h5 : 5 ≤ k
    · have E1 := Lib.hid (show (0 : Int) = tableK k from by unfold tableK; rw [if_neg (by omega)])
      have E2 := Lib.hid (show (0 : Int) = nodeK k from by unfold nodeK; rw [if_neg (by omega), if_neg (by omega)])
      go_enter Try.func39, Try.ntmps39
      go_wp2_with fail
      go_ret2
      exact ⟨ret2_ii E1.out E2.out, HB.out _⟩
    · have hk : k = 0 ∨ k = 1 ∨ k = 2 ∨ k = 3 ∨ k = 4 := by omega
      clear h0 h5
      rcases hk with rfl | rfl | rfl | rfl | rfl
      all_goals
        go_enter Try.func39, Try.ntmps39
        go_wp2_with fail
        go_quiet (fail)
        go_wp2_with fail
        go_ret2
        exact ⟨ret2_ii rfl rfl, bdrewN (HB.out _) _⟩
set_option maxRecDepth 100000 in
set_option maxHeartbeats 4000000 in
theorem node_any (k : Int) (w : World) : Calls Try.prog 12 #[.int .i64 k] w fun e w' => e = .returned (.int .i64 (nodeK k)) ∧ Below w.heap.size w w' := by
  have HC := Lib.hid (fun w => kinds_any k w)
  go_enter Try.func12, Try.ntmps12
  go_wp2_with fail
  refine (HC.out _).mono ?_
  rintro e w1 ⟨rfl, hb1⟩
  have HB := Lib.hid hb1
  clear hb1
  go_wp2_with fail
  go_ret
  exact ⟨rfl, HB.out⟩

set_option maxRecDepth 100000 in
set_option maxHeartbeats 4000000 in
theorem table_any (k : Int) (w : World) : Calls Try.prog 14 #[.int .i64 k] w fun e w' => e = .returned (.int .i64 (tableK k)) ∧ Below w.heap.size w w' := by
  have HC := Lib.hid (fun w => kinds_any k w)
  go_enter Try.func14, Try.ntmps14
  go_wp2_with fail
  refine (HC.out _).mono ?_
  rintro e w1 ⟨rfl, hb1⟩
  have HB := Lib.hid hb1
  clear hb1
  go_wp2_with fail
  go_ret
  exact ⟨rfl, HB.out⟩

set_option maxRecDepth 100000 in
set_option maxHeartbeats 4000000 in
theorem rkind_any (k : Int) (w : World) : Calls Try.prog 40 #[.int .i64 k] w fun e w' => e = .returned (.bool (decide (1 ≤ k ∧ k ≤ 4))) ∧ w = w' := by
  by_cases h1 : 1 ≤ k
  · by_cases h4 : k ≤ 4
    · go_enter Try.func40, Try.ntmps40
      go_wp2_with fail
      go_ret
      exact ⟨ret1_b (by simp [h1, h4]), rfl⟩
    · go_enter Try.func40, Try.ntmps40
      go_wp2_with fail
      go_ret
      exact ⟨ret1_b (by simp [h4]), rfl⟩
  · go_enter Try.func40, Try.ntmps40
    go_wp2_with fail
    go_ret
    exact ⟨ret1_b (by rw [decide_eq_false (show ¬ 1 ≤ k by omega)]; rfl), rfl⟩

set_option maxRecDepth 100000 in
set_option maxHeartbeats 4000000 in
theorem rnode_any (k : Int) (w : World) : Calls Try.prog 13 #[.int .i64 k] w fun e w' => e = .returned (.int .i64 (nodeK k)) ∧ w = w' := by

  by_cases h2 : k = 2
  · subst h2
    go_enter Try.func13, Try.ntmps13
    go_wp2_with fail
    go_ret
    exact ⟨ret1_i rfl, rfl⟩

  by_cases h1 : 1 ≤ k ∧ k ≤ 4
  · have HE := Lib.hid (show (4 : Int) = nodeK k from by unfold nodeK; rw [if_neg h2, if_pos h1])
    have hd : decide (1 ≤ k ∧ k ≤ 4) = true := decide_eq_true h1
    have HK := Lib.hid (fun w => hd ▸ rkind_any k w)
    clear hd h1
    go_enter Try.func13, Try.ntmps13
    go_wp2_with fail
    refine (HK.out _).mono ?_
    rintro e w1 ⟨rfl, rfl⟩
    go_wp2_with fail
    go_ret
    exact ⟨ret1_i HE.out, rfl⟩
  · have HE := Lib.hid (show (0 : Int) = nodeK k from by unfold nodeK; rw [if_neg h2, if_neg h1])
    have hd : decide (1 ≤ k ∧ k ≤ 4) = false := decide_eq_false h1
    have HK := Lib.hid (fun w => hd ▸ rkind_any k w)
    clear hd h1
    go_enter Try.func13, Try.ntmps13
    go_wp2_with fail
    refine (HK.out _).mono ?_
    rintro e w1 ⟨rfl, rfl⟩
    go_wp2_with fail
    go_ret
    exact ⟨ret1_i HE.out, rfl⟩

set_option maxRecDepth 100000 in
set_option maxHeartbeats 4000000 in
theorem rtable_any (k : Int) (w : World) : Calls Try.prog 15 #[.int .i64 k] w fun e w' => e = .returned (.int .i64 (tableK k)) ∧ w = w' := by

  by_cases h1 : 1 ≤ k ∧ k ≤ 4
  · have HE := Lib.hid (show (16 : Int) = tableK k from by unfold tableK; rw [if_pos h1])
    have hd : decide (1 ≤ k ∧ k ≤ 4) = true := decide_eq_true h1
    have HK := Lib.hid (fun w => hd ▸ rkind_any k w)
    clear hd h1
    go_enter Try.func15, Try.ntmps15
    go_wp2_with fail
    refine (HK.out _).mono ?_
    rintro e w1 ⟨rfl, rfl⟩
    go_wp2_with fail
    go_ret
    exact ⟨ret1_i HE.out, rfl⟩
  · have HE := Lib.hid (show (0 : Int) = tableK k from by unfold tableK; rw [if_neg h1])
    have hd : decide (1 ≤ k ∧ k ≤ 4) = false := decide_eq_false h1
    have HK := Lib.hid (fun w => hd ▸ rkind_any k w)
    clear hd h1
    go_enter Try.func15, Try.ntmps15
    go_wp2_with fail
    refine (HK.out _).mono ?_
    rintro e w1 ⟨rfl, rfl⟩
    go_wp2_with fail
    go_ret
    exact ⟨ret1_i HE.out, rfl⟩

set_option maxRecDepth 100000 in
set_option maxHeartbeats 4000000 in
theorem bkt_any (b : Int) (w : World) : Calls Try.prog 16 #[.int .i64 b] w fun e w' => e = .returned (.int .i64 (bktN b)) ∧ w = w' := by
  by_cases h1 : b < 1
  · have HE := Lib.hid (show (0 : Int) = bktN b from by unfold bktN; rw [if_neg (by omega)])
    go_enter Try.func16, Try.ntmps16
    go_wp2_with fail
    go_ret
    exact ⟨ret1_i HE.out, rfl⟩
  · by_cases h2 : 1048576 < b
    · have HE := Lib.hid (show (0 : Int) = bktN b from by unfold bktN; rw [if_neg (by omega)])
      go_enter Try.func16, Try.ntmps16
      go_wp2_with fail
      go_ret
      exact ⟨ret1_i HE.out, rfl⟩
    · have HE := Lib.hid (bkt_bits (b := b) (by omega) (by omega))
      go_enter Try.func16, Try.ntmps16
      go_wp2_with fail
      go_ret
      exact ⟨ret1_i (by rw [← HE.out]; congr 1; omega), rfl⟩

set_option maxRecDepth 100000 in
set_option maxHeartbeats 4000000 in
theorem rbkt_any (b : Int) (w : World) : Calls Try.prog 17 #[.int .i64 b] w fun e w' => e = .returned (.int .i64 (bktN b)) ∧ w = w' := by
  by_cases h1 : b < 1
  · have HE := Lib.hid (show (0 : Int) = bktN b from by unfold bktN; rw [if_neg (by omega)])
    go_enter Try.func17, Try.ntmps17
    go_wp2_with fail
    go_ret
    exact ⟨ret1_i HE.out, rfl⟩
  · by_cases h2 : 1048576 < b
    · have HE := Lib.hid (show (0 : Int) = bktN b from by unfold bktN; rw [if_neg (by omega)])
      go_enter Try.func17, Try.ntmps17
      go_wp2_with fail
      go_ret
      exact ⟨ret1_i HE.out, rfl⟩
    · have HE := Lib.hid (show bktN b = (b + 15) / 16 * 16 from by unfold bktN; rw [if_pos (by omega)])
      go_enter Try.func17, Try.ntmps17
      go_wp2_with fail
      go_loop [3, 4] (fun n i => ∃ k : Nat, n = .int .i64 (16 * (k : Int)) ∧ i = .int .i64 (16 * (k : Int)) ∧ 16 * (k : Int) < b + 16) (fun n _ => (b + 16).toNat - (intOf n).toNat)
      case atStart => exact ⟨0, rfl, rfl, by omega⟩
      case round =>
        obtain ⟨k, rfl, rfl, hk⟩ := hrel
        by_cases hlt : 16 * (k : Int) < b
        · go_wp2_with fail
          go_round
          case rel => exact ⟨k + 1, by go_num, by go_num, by omega⟩
          case measure => simp [intOf]; omega
        · go_wp2_with fail
          go_ret
          exact ⟨ret1_i (by rw [HE.out]; omega), rfl⟩
end Go.Proofs.Ytofinjkgbbdbcaa.Nd
