/- What tables need: plain. -/
import Derived.Test.YtofinjkgbbdbcaaChkSpec
import Derived.Test.YtofinjkgbbdbcaaRnd
import Derived.Lib.QuoteBits
namespace Go.Proofs.Ytofinjkgbbdbcaa.Nd
open K Ar
set_option linter.unusedVariables false
set_option linter.unusedSimpArgs false

def nodeK (k : Int) : Int := if k = 2 then 6 else if 1 ≤ k ∧ k ≤ 4 then 4 else 0
def tableK (k : Int) : Int := if 1 ≤ k ∧ k ≤ 4 then 16 else 0
def bktN (b : Int) : Int := if 1 ≤ b ∧ b ≤ 1048576 then (b + 15) / 16 * 16 else 0
def objE (t : Tm) : Int := chk t
def objN (t : Tm) : Int := if chk t = 0 then rndI (wds t) else 0
def badP (kind b : Int) : Prop := ¬ (1 ≤ kind ∧ kind ≤ 4) ∨ b < 0 ∨ 1048576 < b
instance (kind b : Int) : Decidable (badP kind b) := by unfold badP; infer_instance
def putE (kind b c : Int) (t : Tm) : Int := if badP kind b ∨ c < 0 ∨ 16777216 < c then 2 else chk t
def putN (kind b c : Int) (t : Tm) : Int :=
  if badP kind b ∨ c < 0 ∨ 16777216 < c then 0 else if chk t = 0 then rndI (wds t) + nodeK kind + (if kind ≠ 2 ∧ 2 * b ≤ c ∧ b < 1048576 then bktN (b + 1) - bktN b else 0) else 0
/-- The rest of a sum, from a on. -/
def sumN (kind : Int) : List Tm → Int → Int
  | [], a => a
  | t :: l, a => if chk t = 0 then sumN kind l (a + (rndI (wds t) + nodeK kind)) else 0
def sumE : List Tm → Int
  | [] => 0
  | t :: l => if chk t = 0 then sumE l else chk t
def base (kind b : Int) : Int := tableK kind + (if kind = 2 then 0 else bktN b)
def sumsE (kind b : Int) (l : List Tm) : Int := if badP kind b then 2 else sumE l
def sumsN (kind b : Int) (l : List Tm) : Int := if badP kind b then 0 else sumN kind l (base kind b)

theorem chk_wds {t : Tm} (h : chk t = 0) : 1 ≤ wds t ∧ wds t ≤ 65536 := by
  have h1 := (wds_range t).1
  rw [chk_eq] at h
  split at h
  · split at h
    · omega
    · omega
  · omega
theorem chk_range (t : Tm) : chk t = 0 ∨ chk t = 2 ∨ chk t = 3 := by
  unfold chk
  split
  · split
    · exact .inr (.inr rfl)
    · exact .inl rfl
  · exact .inr (.inl rfl)
theorem rndI_nat {n : Int} (h1 : 1 ≤ n) (h2 : n ≤ 16777216) : rndI n = (rnd n.toNat : Int) := by
  unfold rndI
  rw [if_neg (by omega)]
theorem rndI_range {n : Int} (h1 : 1 ≤ n) (h2 : n ≤ 65536) : n ≤ rndI n ∧ rndI n ≤ 131072 := by
  rw [rndI_nat h1 (by omega)]
  have a := rnd_ge (n := n.toNat) (by omega) (by omega)
  have b := rnd_lt (n := n.toNat) (by omega) (by omega)
  omega
theorem obj_range (t : Tm) : 0 ≤ objN t ∧ objN t ≤ 131072 := by
  unfold objN
  split
  · rename_i h
    have := chk_wds h
    have := rndI_range this.1 this.2
    omega
  · omega
theorem nodeK_range (k : Int) : 0 ≤ nodeK k ∧ nodeK k ≤ 6 := by unfold nodeK; split <;> (try split) <;> omega
theorem bktN_range (b : Int) : 0 ≤ bktN b ∧ bktN b ≤ 1048576 := by
  unfold bktN
  split <;> omega
theorem base_range (k b : Int) : 0 ≤ base k b ∧ base k b ≤ 1048592 := by
  have := bktN_range b
  unfold base tableK
  split <;> split <;> omega
theorem andNot_15 (i : Nat) (h : i < 9223372036854775807) : bits .andNot .i64 (i : Int) 15 = ((i / 16 * 16 : Nat) : Int) := by
  show IntKind.i64.wrap ((BitVec.ofInt 64 (i : Int) &&& ~~~BitVec.ofInt 64 ((15 : Nat) : Int)).toNat : Int) = _
  rw [BitVec.toNat_and, BitVec.toNat_not, ofInt_u64 i (by omega), ofInt_u64 15 (by omega)]
  have e : 2 ^ 64 - 1 - 15 = 18446744073709551600 := by decide
  rw [e, nat_hi64_4, Nat.mod_eq_of_lt (by omega)]
  exact Lib.wrap_i64_small _ (by omega)
theorem bkt_bits {b : Int} (h1 : 1 ≤ b) (h2 : b ≤ 1048576) : bits .andNot .i64 (b + 15) 15 = bktN b := by
  obtain ⟨i, rfl⟩ := Int.eq_ofNat_of_zero_le (show 0 ≤ b by omega)
  unfold bktN
  rw [if_pos ⟨h1, h2⟩]
  have := andNot_15 (i + 15) (by omega)
  rw [show ((i + 15 : Nat) : Int) = (i : Int) + 15 from by omega] at this
  rw [this]
  omega
theorem sumN_ok (kind : Int) : ∀ (l : List Tm) (a : Int), sumE l = 0 → sumN kind l a = a + sumN kind l 0
  | [], a, _ => by simp [sumN]
  | t :: l, a, h => by
    unfold sumE at h
    by_cases ht : chk t = 0
    · rw [if_pos ht] at h
      unfold sumN
      rw [if_pos ht, if_pos ht, sumN_ok kind l _ h, sumN_ok kind l (0 + _) h]
      omega
    · rw [if_neg ht] at h
      exact absurd h ht
theorem sumE_append (l : List Tm) (t : Tm) (h : sumE l = 0) : sumE (l ++ [t]) = chk t := by
  induction l with
  | nil => simp [sumE]; intro h; exact h.symm
  | cons u l ih =>
    unfold sumE at h
    by_cases hu : chk u = 0
    · rw [if_pos hu] at h
      rw [List.cons_append]
      unfold sumE
      rw [if_pos hu]
      exact ih h
    · rw [if_neg hu] at h
      exact absurd h hu
theorem sumN_append (kind : Int) (l : List Tm) (t : Tm) (a : Int) (h : sumE l = 0) (ht : chk t = 0) : sumN kind (l ++ [t]) a = sumN kind l a + (rndI (wds t) + nodeK kind) := by
  induction l generalizing a with
  | nil => simp [sumN, ht]
  | cons u l ih =>
    unfold sumE at h
    by_cases hu : chk u = 0
    · rw [if_pos hu] at h
      rw [List.cons_append]
      unfold sumN
      rw [if_pos hu, if_pos hu]
      exact ih _ h
    · rw [if_neg hu] at h
      exact absurd h hu
theorem bktN_mono (b : Int) (h0 : 0 ≤ b) (h : b < 1048576) : bktN b ≤ bktN (b + 1) := by
  unfold bktN
  rw [if_pos (show 1 ≤ b + 1 ∧ b + 1 ≤ 1048576 by omega)]
  split <;> omega
theorem sumN_range (kind : Int) : ∀ (l : List Tm), sumE l = 0 → 0 ≤ sumN kind l 0 ∧ sumN kind l 0 ≤ 131078 * (l.length : Int)
  | [], _ => by simp [sumN]
  | t :: l, h => by
    unfold sumE at h
    by_cases ht : chk t = 0
    · rw [if_pos ht] at h
      have ih := sumN_range kind l h
      have hw := chk_wds ht
      have hr := rndI_range hw.1 hw.2
      have hk := nodeK_range kind
      unfold sumN
      rw [if_pos ht, sumN_ok kind l _ h]
      simp only [List.length_cons]
      omega
    · rw [if_neg ht] at h
      exact absurd h ht
/-- A class is its own. -/
theorem rndI_rndI {n : Int} (h1 : 1 ≤ n) (h2 : n ≤ 65536) : rndI (rndI n) = rndI n := by
  have h3 := rndI_range h1 h2
  have e := rndI_nat h1 (by omega)
  obtain ⟨j, hj, hle, hlt⟩ := rnd_is (n := n.toNat) (by omega) (by omega)
  have h4 : IsRnd (rnd n.toNat) (rnd n.toNat) := ⟨j, hj, Nat.le_refl _, fun i hi => by
    rw [hj]
    have := cls_lt i
    have := cls_mono (show i + 1 ≤ j by omega)
    omega⟩
  have h5 := rnd_is (n := rnd n.toNat) (by omega) (by omega)
  have h6 := h5.uniq h4
  rw [rndI_nat (n := rndI n) (by omega) (by omega), e]
  simp only [Int.toNat_natCast]
  rw [h6]
end Go.Proofs.Ytofinjkgbbdbcaa.Nd
