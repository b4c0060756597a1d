/- The package word's Kind, Boxed and Unpack, each by its contract. -/
import Derived.Test.YtnedjmjcbmoknaaWord
namespace Go.Proofs.Ytnedjmjcbmoknaa.Wd
open Go.RowKit K
set_option linter.unusedVariables false
set_option linter.unusedSimpArgs false

theorem kind_any (x : Int) (h0 : 0 ≤ x) (h1 : x < 18446744073709551616) (w : World) :
    Calls Try.prog 54 #[.int .u64 x] w fun e w' => e = .returned (.int .i64 (x % 16)) ∧ w' = w := by
  have e1 : bits BinOp.and IntKind.u64 x 15 = x % 16 := by
    rw [u64_and _ _ h0 h1 (by omega) (by omega), show (15 : Int).toNat = 15 from rfl, nat_mask4]
    omega
  have hr : 0 ≤ x % 16 := by omega
  have hr' : x % 16 ≤ 15 := by omega
  go_enter Try.func54, Try.ntmps54
  go_wp2
  go_ret
  exact ⟨ret1_i rfl, rfl⟩

theorem boxed_bits (r : Int) (h0 : 0 ≤ r) (h1 : r ≤ 15) : (bits BinOp.and IntKind.u64 (672 / 2 ^ r.toNat) 1 == 1) = decide (r = 7 ∨ r = 9 ∨ r = 5) := by
  obtain ⟨n, rfl⟩ := Int.eq_ofNat_of_zero_le h0
  have hn : n < 16 := by omega
  have h : ∀ m : Fin 16, (bits BinOp.and IntKind.u64 (672 / 2 ^ (Int.toNat ((m.val : Nat) : Int))) 1 == 1) = decide ((((m.val : Nat) : Int)) = 7 ∨ ((m.val : Nat) : Int) = 9 ∨ ((m.val : Nat) : Int) = 5) := by decide +kernel
  exact h ⟨n, hn⟩

set_option maxHeartbeats 4000000 in
theorem sh_is (x : Int) (h0 : 0 ≤ x) (h1 : x < 18446744073709551616) : wrap64 x / 16 = sh x := by
  unfold wrap64 sh
  split <;> omega
theorem wf_sh (x : Int) (h0 : 0 ≤ x) (h1 : x < 18446744073709551616) : (Lit.int .i64 (wrap64 x / 16)).wf = true := by
  refine WalkArith.wf_i64 ?_
  unfold wrap64
  omega

set_option maxHeartbeats 4000000 in
theorem unpack_any (x : Int) (h0 : 0 ≤ x) (h1 : x < 18446744073709551616) (w : World) :
    Calls Try.prog 34 #[.int .u64 x] w fun e w' => e = .returned (.tuple #[.int .i64 (unK x), .int .i64 (unN x), .int .i64 (unE x)]) ∧ Below w.heap.size w w' := by
  have hr : 0 ≤ x % 16 := by omega
  have hr' : x % 16 ≤ 15 := by omega
  have wf1 : (Lit.int .i64 (x % 16)).wf = true := WalkArith.wf_i64 (by omega)
  have wf2 := wf_sh x h0 h1
  have hsh := sh_is x h0 h1
  have hp := pack_sh h0 h1
  rw [← hsh] at hp
  by_cases hu : unE x = 0
  · have e1 : unK x = x % 16 := by unfold unK; rw [if_pos hu]
    have e2 : unN x = wrap64 x / 16 := by unfold unN; rw [if_pos hu, hsh, sh_word h0 h1 hu]
    obtain ⟨p1, p2⟩ := hp.2 hu
    have E0 := Lib.hid hu; have E1 := Lib.hid e1; have E2 := Lib.hid e2
    clear hsh hp hu e1 e2
    go_enter Try.func34, Try.ntmps34
    go_wp2_with (first | (go_at_call 54; refine (kind_any _ h0 h1 _).mono ?_; rintro e w1 ⟨rfl, rfl⟩) | (go_at_call 36; refine (pack_any _ _ wf1 wf2 _).mono ?_; rintro e w1 ⟨rfl, hb⟩))
    go_ret3
    exact ⟨ret3_iii E1.out.symm E2.out.symm E0.out.symm, hb⟩
  · have e0 : unE x = 4 := by unfold unE at hu ⊢; split <;> simp_all
    have e1 : unK x = 0 := by unfold unK; rw [if_neg hu]
    have e2 : unN x = 0 := by unfold unN; rw [if_neg hu]
    have E0 := Lib.hid e0; have E1 := Lib.hid e1; have E2 := Lib.hid e2
    have hn : ¬ (packE (x % 16) (wrap64 x / 16) = 0 ∧ packW (x % 16) (wrap64 x / 16) = x) := fun h => hu (hp.1 h)
    clear hsh hp hu e0 e1 e2
    by_cases c : packE (x % 16) (wrap64 x / 16) = 0
    · have d : (packW (x % 16) (wrap64 x / 16) != x) = true := by simp; exact fun h => hn ⟨c, h⟩
      clear hn
      go_enter Try.func34, Try.ntmps34
      go_wp2_with (first | (go_at_call 54; refine (kind_any _ h0 h1 _).mono ?_; rintro e w1 ⟨rfl, rfl⟩) | (go_at_call 36; refine (pack_any _ _ wf1 wf2 _).mono ?_; rintro e w1 ⟨rfl, hb⟩))
      go_ret3
      exact ⟨ret3_iii E1.out.symm E2.out.symm E0.out.symm, hb⟩
    · have d : (packE (x % 16) (wrap64 x / 16) != 0) = true := by simpa using c
      clear hn c
      go_enter Try.func34, Try.ntmps34
      go_wp2_with (first | (go_at_call 54; refine (kind_any _ h0 h1 _).mono ?_; rintro e w1 ⟨rfl, rfl⟩) | (go_at_call 36; refine (pack_any _ _ wf1 wf2 _).mono ?_; rintro e w1 ⟨rfl, hb⟩))
      go_ret3
      exact ⟨ret3_iii E1.out.symm E2.out.symm E0.out.symm, hb⟩
end Go.Proofs.Ytnedjmjcbmoknaa.Wd
