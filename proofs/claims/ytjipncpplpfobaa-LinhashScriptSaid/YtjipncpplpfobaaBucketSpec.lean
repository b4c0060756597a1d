/- Which bucket a hash has: plain. -/
import Derived.Test.YtjipncpplpfobaaRnd
import Derived.Laws.BitsAllLaws
namespace Go.Proofs.Ytjipncpplpfobaa.Hs
open Go Ar
set_option linter.unusedVariables false
set_option linter.unusedSimpArgs false

/-- The least power of two that is not below b. -/
def pw (b : Nat) : Nat := 2 ^ Lib.bitLen (b - 1)
theorem pw_is {b : Nat} (h1 : 1 ≤ b) (h2 : b ≤ 1048576) : b ≤ pw b ∧ pw b ≤ 1048576 ∧ ∀ i, 2 ^ i < pw b → 2 ^ i < b := by
  have hs := len_aux 64 (b - 1) (by omega)
  have e : Lib.bitLenAux 64 (b - 1) = Lib.bitLen (b - 1) := rfl
  rw [e] at hs
  obtain ⟨L, hL⟩ : ∃ L, Lib.bitLen (b - 1) = L := ⟨_, rfl⟩
  unfold pw
  rw [hL] at hs ⊢
  have hlt : ∀ i, 2 ^ i < 2 ^ L → 2 ^ i < b := fun i hi => by
    have hiL : i < L := (Nat.pow_lt_pow_iff_right (by decide)).1 hi
    rcases Nat.eq_zero_or_pos (b - 1) with h | h
    · rw [h, len_zero] at e
      rw [h] at hL
      omega
    · have h3 := (hs.2 (by omega)).2
      have h4 := Nat.pow_le_pow_right (n := 2) (by decide) (show i ≤ L - 1 by omega)
      omega
  refine ⟨by omega, ?_, hlt⟩
  rcases Nat.lt_or_ge 20 L with h | h
  · have := hlt 20 (Nat.pow_lt_pow_right (by decide) h)
    omega
  · exact Nat.pow_le_pow_right (n := 2) (by decide) h
theorem pw_uniq {b j : Nat} (h1 : 1 ≤ b) (h2 : b ≤ 1048576) (hj : b ≤ 2 ^ j) (hm : ∀ i, 2 ^ i < 2 ^ j → 2 ^ i < b) : pw b = 2 ^ j := by
  obtain ⟨a1, a2, a3⟩ := pw_is h1 h2
  unfold pw at *
  rcases Nat.lt_trichotomy (2 ^ Lib.bitLen (b - 1)) (2 ^ j) with h | h | h
  · have := hm _ h; omega
  · exact h
  · have := a3 _ h; omega
theorem pw_half {b : Nat} (h1 : 1 ≤ b) (h2 : b ≤ 1048576) (h : b < pw b) : ∃ r, pw b = 2 * r ∧ 1 ≤ r ∧ r < b ∧ ∃ j, r = 2 ^ j := by
  obtain ⟨a1, a2, a3⟩ := pw_is h1 h2
  obtain ⟨L, hL⟩ : ∃ L, Lib.bitLen (b - 1) = L := ⟨_, rfl⟩
  have e : pw b = 2 ^ L := by unfold pw; rw [hL]
  rw [e] at h a1 a2 a3 ⊢
  obtain ⟨j, rfl⟩ : ∃ j, L = j + 1 := ⟨L - 1, by
    rcases Nat.eq_zero_or_pos L with h0 | h0
    · rw [h0] at h; simp at h; omega
    · omega⟩
  have hp : 2 ^ (j + 1) = 2 * 2 ^ j := by rw [Nat.pow_succ]; omega
  have hpos : 0 < 2 ^ j := Nat.two_pow_pos j
  exact ⟨2 ^ j, hp, hpos, a3 j (by omega), j, rfl⟩
/-- The bucket. -/
def bktI (h b : Int) : Int := if h % (pw b.toNat : Int) < b then h % (pw b.toNat : Int) else h % ((pw b.toNat : Int) / 2)
def bktV (h b : Int) : Int := if b < 1 ∨ 1048576 < b then 0 else bktI h b
def bktE (b : Int) : Int := if b < 1 ∨ 1048576 < b then 2 else 0
theorem bktI_range {g n : Int} (h1 : 1 ≤ n) (h2 : n ≤ 1048576) : 0 ≤ bktI g n ∧ bktI g n < n := by
  obtain ⟨b, rfl⟩ := Int.eq_ofNat_of_zero_le (show 0 ≤ n by omega)
  obtain ⟨a1, a2, a3⟩ := pw_is (b := b) (by omega) (by omega)
  unfold bktI
  rw [Int.toNat_natCast]
  have m1 := Int.emod_nonneg g (b := (pw b : Int)) (by omega)
  split
  · omega
  · rename_i hn
    have hlt := Int.emod_lt_of_pos g (b := (pw b : Int)) (by omega)
    obtain ⟨r, e1, e2, e3, _⟩ := pw_half (b := b) (by omega) (by omega) (by omega)
    have e4 : (pw b : Int) / 2 = (r : Int) := by omega
    rw [e4]
    have m3 := Int.emod_nonneg g (b := (r : Int)) (by omega)
    have m4 := Int.emod_lt_of_pos g (b := (r : Int)) (by omega)
    omega
theorem mod_mod_half (g : Int) (r : Int) (h : 0 < r) : (g % (2 * r)) % r = g % r := Int.emod_emod_of_dvd g ⟨2, by omega⟩
/-- One bucket more: where it was, or the new one; what goes to the new one comes from one place. -/
theorem bkt_split {n : Int} (h1 : 1 ≤ n) (h2 : n < 1048576) : ∃ o : Int, ∀ g : Int, (bktI g (n + 1) = bktI g n ∨ bktI g (n + 1) = n) ∧ (bktI g (n + 1) = n → bktI g n = o) := by
  obtain ⟨b, rfl⟩ := Int.eq_ofNat_of_zero_le (show 0 ≤ n by omega)
  obtain ⟨a1, a2, a3⟩ := pw_is (b := b) (by omega) (by omega)
  have tn : ((b : Int) + 1).toNat = b + 1 := by omega
  rcases Nat.lt_or_ge b (pw b) with hlt | hge
  · -- the same power serves
    obtain ⟨r, e1, e2, e3, _⟩ := pw_half (b := b) (by omega) (by omega) hlt
    have ep : pw (b + 1) = pw b := by
      have := pw_uniq (b := b + 1) (j := Lib.bitLen (b - 1)) (by omega) (by omega) (by have : pw b = 2 ^ Lib.bitLen (b - 1) := rfl; omega) (fun i hi => by have := a3 i hi; omega)
      rw [this]; rfl
    have e4 : (pw b : Int) / 2 = (r : Int) := by omega
    refine ⟨(b : Int) % (r : Int), fun g => ?_⟩
    unfold bktI
    rw [tn, ep, Int.toNat_natCast, e4]
    have m1 := Int.emod_nonneg g (b := (pw b : Int)) (by omega)
    have m2 := Int.emod_lt_of_pos g (b := (pw b : Int)) (by omega)
    have m3 := Int.emod_nonneg g (b := (r : Int)) (by omega)
    have m4 := Int.emod_lt_of_pos g (b := (r : Int)) (by omega)
    have m5 := mod_mod_half g (r : Int) (by omega)
    have e5 : (pw b : Int) = 2 * (r : Int) := by omega
    rw [← e5] at m5
    by_cases c1 : g % (pw b : Int) < (b : Int)
    · rw [if_pos c1, if_pos (by omega)]
      exact ⟨.inl rfl, fun e => by omega⟩
    · rw [if_neg c1]
      by_cases c2 : g % (pw b : Int) < (b : Int) + 1
      · rw [if_pos c2]
        have c3 : g % (pw b : Int) = (b : Int) := by omega
        rw [c3] at m5
        exact ⟨.inr c3, fun _ => m5.symm⟩
      · rw [if_neg c2]
        exact ⟨.inl rfl, fun e => by omega⟩
  · -- the next power
    have e0 : pw b = b := by omega
    have ep : pw (b + 1) = 2 * b := by
      have hb : b = 2 ^ Lib.bitLen (b - 1) := by have : pw b = 2 ^ Lib.bitLen (b - 1) := rfl; omega
      have := pw_uniq (b := b + 1) (j := Lib.bitLen (b - 1) + 1) (by omega) (by omega) (by rw [Nat.pow_succ, ← hb]; omega) (fun i hi => by
        have h3 : i < Lib.bitLen (b - 1) + 1 := (Nat.pow_lt_pow_iff_right (by decide)).1 hi
        have h4 := Nat.pow_le_pow_right (n := 2) (by decide) (show i ≤ Lib.bitLen (b - 1) by omega)
        rw [← hb] at h4
        omega)
      rw [this, Nat.pow_succ, ← hb]; omega
    refine ⟨0, fun g => ?_⟩
    unfold bktI
    rw [tn, ep, Int.toNat_natCast, e0]
    have e4 : ((2 * b : Nat) : Int) / 2 = (b : Int) := by omega
    have e5 : ((2 * b : Nat) : Int) = 2 * (b : Int) := by omega
    rw [e4, e5]
    have m1 := Int.emod_nonneg g (b := 2 * (b : Int)) (by omega)
    have m2 := Int.emod_lt_of_pos g (b := 2 * (b : Int)) (by omega)
    have m3 := Int.emod_nonneg g (b := (b : Int)) (by omega)
    have m4 := Int.emod_lt_of_pos g (b := (b : Int)) (by omega)
    have m5 := mod_mod_half g (b : Int) (by omega)
    rw [if_pos m4]
    by_cases c1 : g % (2 * (b : Int)) < (b : Int)
    · have c3 : g % (2 * (b : Int)) % (b : Int) = g % (2 * (b : Int)) := Int.emod_eq_of_lt m1 c1
      rw [if_pos (by omega)]
      exact ⟨.inl (by omega), fun e => by omega⟩
    · by_cases c2 : g % (2 * (b : Int)) < (b : Int) + 1
      · have c3 : g % (2 * (b : Int)) = (b : Int) := by omega
        rw [if_pos c2]
        rw [c3, Int.emod_self] at m5
        exact ⟨.inr c3, fun _ => m5.symm⟩
      · rw [if_neg c2]
        exact ⟨.inl rfl, fun e => by omega⟩
/-- A mask is a remainder. -/
theorem and_mask (x j : Nat) (hx : x ≤ 4294967295) (hj : 2 ^ j ≤ 4294967295) : bits .and .u32 (x : Int) ((((2 ^ j : Nat) : Int) - 1) % 4294967296) = ((x % 2 ^ j : Nat) : Int) := by
  have hp : 0 < 2 ^ j := Nat.two_pow_pos j
  have e : (((2 ^ j : Nat) : Int) - 1) % 4294967296 = ((2 ^ j - 1 : Nat) : Int) := by
    rw [Int.emod_eq_of_lt (by omega) (by omega)]; omega
  rw [e]
  show IntKind.u32.wrap ((BitVec.ofInt 32 (x : Int) &&& BitVec.ofInt 32 ((2 ^ j - 1 : Nat) : Int)).toNat : Int) = _
  rw [BitVec.toNat_and, ofInt_u32 x (by omega), ofInt_u32 (2 ^ j - 1) (by omega), Nat.and_two_pow_sub_one_eq_mod]
  have hle : x % 2 ^ j ≤ x := Nat.mod_le _ _
  obtain ⟨y, hy⟩ : ∃ y, x % 2 ^ j = y := ⟨_, rfl⟩
  rw [hy] at hle ⊢
  simp [IntKind.wrap, IntKind.bits, IntKind.signed]
  omega
end Go.Proofs.Ytjipncpplpfobaa.Hs
