/- arena.Round and the document's, each by its contract: both say 'rndI'. -/
import Derived.Test.YtnanacokclcbfaaLawKit
import Derived.Test.YtnanacokclcbfaaRnd
import Derived.Test.YtnanacokclcbfaaBitsLen
import Derived.Outline
import Derived.WalkLawsBesides
import Derived.WalkSpells
namespace Go.Proofs.Ytnanacokclcbfaa.Ar
open Go.RowKit K
set_option linter.unusedVariables false
set_option linter.unusedSimpArgs false

set_option maxRecDepth 100000 in
set_option maxHeartbeats 4000000 in
theorem round_any (n : Int) (hn : (Lit.int .i64 n).wf = true) (w : World) :
    Calls Try.prog 9 #[.int .i64 n] w fun e w' => e = .returned (.int .i64 (rndI n)) ∧ w = w' := by
  obtain ⟨n1, n2⟩ := bounds_i64 hn
  clear hn
  by_cases h1 : n < 1
  · go_enter Try.func9, Try.ntmps9
    go_wp2_with fail
    go_ret
    exact ⟨ret1_i (by unfold rndI; rw [if_pos (.inl h1)]), rfl⟩
  · by_cases h2 : 16777216 < n
    · go_enter Try.func9, Try.ntmps9
      go_wp2_with fail
      go_ret
      exact ⟨ret1_i (by unfold rndI; rw [if_pos (.inr h2)]), rfl⟩
    · obtain ⟨k, rfl⟩ : ∃ k : Nat, n = (k : Int) := ⟨n.toNat, by omega⟩
      have k1 : 1 ≤ k := by omega
      have k2 : k ≤ 16777216 := by omega
      obtain ⟨L, hL⟩ : ∃ L, Lib.bitLen (k - 1) = L := ⟨_, rfl⟩
      have hL2 : ((k : Int) - 1).toNat = k - 1 := by omega
      have HL := Lib.hid (fun w => (Sh.bits_Len ((k : Int) - 1) w (by omega) (by omega)).mono (R' := fun e w' => e = .returned (.int .i64 (L : Int)) ∧ w = w') fun e w' h => by rw [hL2, hL] at h; exact h)
      have hs := len_aux 64 (k - 1) (by omega)
      have e64 : Lib.bitLenAux 64 (k - 1) = L := hL
      rw [e64] at hs
      obtain ⟨q, hq⟩ : ∃ q, 2 ^ L = q := ⟨_, rfl⟩
      have q1 : q ≤ 33554432 := by
        rcases Nat.eq_zero_or_pos L with h | h
        · subst h; rw [← hq]; decide
        · have hk : k - 1 ≠ 0 := fun hk => by
            rw [hk] at e64
            rw [len_zero] at e64
            omega
          have h5 := (hs.2 hk).2
          have h6 : 2 ^ L = 2 * 2 ^ (L - 1) := by
            obtain ⟨a, rfl⟩ : ∃ a, L = a + 1 := ⟨L - 1, by omega⟩
            rw [Nat.pow_succ]; simp; omega
          omega
      have hL64 : L ≤ 64 := by
        rcases Nat.lt_or_ge 64 L with h | h
        · have := Nat.pow_le_pow_right (n := 2) (by omega) (Nat.le_of_lt h)
          have e : (2 : Nat) ^ 64 = 18446744073709551616 := by decide
          omega
        · exact h
      have hmin : min L 64 = L := by omega
      have hw : wrap64 ((2 : Int) ^ L) = (q : Int) := by
        have e : ((2 : Int) ^ L) = (q : Int) := by rw [← hq]; simp
        rw [e]
        unfold wrap64; omega
      obtain ⟨p, hp⟩ : ∃ p, max q 2 = p := ⟨_, rfl⟩
      have hmx : max (q : Int) 2 = (p : Int) := by omega
      have p1 : p ≤ 33554432 := by omega
      have hr : rnd k = if k ≤ p / 4 * 3 then p / 4 * 3 else p := by unfold rnd; rw [hL, hq, hp]
      have HR := Lib.hid hr
      have hri : rndI (k : Int) = (rnd k : Int) := by unfold rndI; rw [if_neg (by omega)]; simp
      have HRI := Lib.hid hri
      clear h1 h2 hs e64 hq hL hL2 hp hr hri n1 n2
      by_cases hc : k ≤ p / 4 * 3
      · have hc2 : (k : Int) ≤ (p : Int) / 4 * 3 := by omega
        clear hc
        go_enter Try.func9, Try.ntmps9
        go_wp2_with (go_at_call 26; refine (HL.out _).mono ?_; rintro e w1 ⟨rfl, rfl⟩)
        go_ret
        refine ⟨ret1_i ?_, rfl⟩
        rw [HRI.out, HR.out, if_pos (by omega)]
        omega
      · have hc2 : (p : Int) / 4 * 3 < (k : Int) := by omega
        clear hc
        go_enter Try.func9, Try.ntmps9
        go_wp2_with (go_at_call 26; refine (HL.out _).mono ?_; rintro e w1 ⟨rfl, rfl⟩)
        go_ret
        refine ⟨ret1_i ?_, rfl⟩
        rw [HRI.out, HR.out, if_neg (by omega)]

set_option maxRecDepth 100000 in
set_option maxHeartbeats 4000000 in
theorem rround_any (n : Int) (hn : (Lit.int .i64 n).wf = true) (w : World) :
    Calls Try.prog 10 #[.int .i64 n] w fun e w' => e = .returned (.int .i64 (rndI n)) ∧ w = w' := by
  obtain ⟨n1, n2⟩ := bounds_i64 hn
  clear hn
  by_cases h1 : n < 1
  · go_enter Try.func10, Try.ntmps10
    go_wp2_with fail
    go_ret
    exact ⟨ret1_i (by unfold rndI; rw [if_pos (.inl h1)]), rfl⟩
  · by_cases h2 : 16777216 < n
    · go_enter Try.func10, Try.ntmps10
      go_wp2_with fail
      go_ret
      exact ⟨ret1_i (by unfold rndI; rw [if_pos (.inr h2)]), rfl⟩
    · obtain ⟨k, rfl⟩ : ∃ k : Nat, n = (k : Int) := ⟨n.toNat, by omega⟩
      have k1 : 1 ≤ k := by omega
      have k2 : k ≤ 16777216 := by omega
      clear h1 h2 n1 n2
      go_enter Try.func10, Try.ntmps10
      go_wp2_with fail
      go_loop [3] (fun i => ∃ j : Nat, i = .int .i64 (cls j : Int) ∧ ∀ i, i < j → cls i < k) (fun i => k - (intOf i).toNat)
      case atStart => exact ⟨0, rfl, fun i hi => by omega⟩
      case round =>
        obtain ⟨j, rfl, hj⟩ := hrel
        have HJ := Lib.hid hj
        clear hj
        by_cases hlt : cls j < k
        · have hc2 : (cls j : Int) < (k : Int) := by omega
          have hpos := cls_pos j
          obtain ⟨c, hc⟩ : ∃ c, cls j = c := ⟨_, rfl⟩
          rw [hc] at hlt hc2 hpos
          have hN := nxt_cls j
          rw [hc] at hN
          have hlt3 := cls_lt j
          rw [hc] at hlt3
          unfold nxt at hN
          rw [hc]
          by_cases e2 : c = 2
          · rw [if_pos e2] at hN
            subst e2
            have HN := Lib.hid hN; have HC := Lib.hid hc
            clear hN hc hlt
            go_wp2_with fail
            go_round
            case rel => exact ⟨j + 1, by rw [← HN.out]; rfl, fun i hi => by
              rcases Nat.lt_or_ge i j with h | h
              · exact HJ.out i h
              · have : i = j := by omega
                subst this
                rw [HC.out]; omega⟩
            case measure => simp [intOf]; omega
          · rw [if_neg e2] at hN
            have e2' : ((c : Int) == 2) = false := by simp; omega
            by_cases e3 : c % 3 = 0
            · rw [if_pos e3] at hN
              have e3' : (c : Int) % 3 = 0 := by omega
              have HN := Lib.hid hN; have HC := Lib.hid hc
              clear hN hc hlt e3
              go_wp2_with fail
              go_round
              case rel => exact ⟨j + 1, by have := HN.out; congr 1; omega, fun i hi => by
                rcases Nat.lt_or_ge i j with h | h
                · exact HJ.out i h
                · have : i = j := by omega
                  subst this
                  rw [HC.out]; omega⟩
              case measure => have := HN.out; simp [intOf]; omega
            · rw [if_neg e3] at hN
              have e3' : ((c : Int) % 3 == 0) = false := by simp; omega
              have HN := Lib.hid hN; have HC := Lib.hid hc
              clear hN hc hlt e3
              go_wp2_with fail
              go_round
              case rel => exact ⟨j + 1, by have := HN.out; congr 1; omega, fun i hi => by
                rcases Nat.lt_or_ge i j with h | h
                · exact HJ.out i h
                · have : i = j := by omega
                  subst this
                  rw [HC.out]; omega⟩
              case measure => have := HN.out; simp [intOf]; omega
        · go_wp2_with fail
          go_ret
          refine ⟨ret1_i ?_, rfl⟩
          unfold rndI
          rw [if_neg (by omega)]
          have := IsRnd.uniq (rnd_is k1 k2) ⟨j, rfl, by omega, HJ.out⟩
          simp [this]
end Go.Proofs.Ytnanacokclcbfaa.Ar
