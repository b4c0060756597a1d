/- Plain: which word a kind and a number have, what a word says; no program in sight. -/
import Derived.Below
namespace Go.Proofs.Ytnedjmjcbmoknaa.Wd

/-- The greatest number of each kind (an Int's apart). -/
def mostV (k : Int) : Int :=
  if k = 10 then 64 else if k = 11 then 137438953536 else if 2 ≤ k ∧ k ≤ 7 ∨ k = 9 then 1073741824 else 0
def isK (k : Int) : Bool := decide (0 ≤ k ∧ k < 12)
def low (k : Int) : Int := if k = 1 then -576460752303423488 else 0
def high (k : Int) : Int := if k = 1 then 576460752303423487 else mostV k
def fits (k n : Int) : Bool := decide (low k ≤ n ∧ n ≤ high k ∧ (k = 11 → n % 128 ≤ 64))
def packW (k n : Int) : Int := if isK k = true ∧ fits k n = true then n % 1152921504606846976 * 16 + k else 0
def packE (k n : Int) : Int := if isK k = true then (if fits k n = true then 0 else 5) else 2

/-- The number that a word says (of an Int below 0: with its sign). -/
def wordN (w : Int) : Int := if w % 16 = 1 ∧ 576460752303423487 < w / 16 then w / 16 - 1152921504606846976 else w / 16
def unE (w : Int) : Int := if isK (w % 16) = true ∧ fits (w % 16) (wordN w) = true then 0 else 4
def unK (w : Int) : Int := if unE w = 0 then w % 16 else 0
def unN (w : Int) : Int := if unE w = 0 then wordN w else 0
def boxd (w : Int) : Bool := decide (w % 16 = 7 ∨ w % 16 = 9 ∨ w % 16 = 5)

theorem packW_range (k n : Int) : 0 ≤ packW k n ∧ packW k n < 18446744073709551616 := by
  unfold packW
  split
  · rename_i h
    have := h.1
    simp only [isK, decide_eq_true_eq] at this
    omega
  · omega

/-- What is packed is unpacked as it was. -/
theorem un_pack {k n : Int} (h : packE k n = 0) : unE (packW k n) = 0 ∧ packW k n % 16 = k ∧ wordN (packW k n) = n := by
  have h1 : isK k = true ∧ fits k n = true := by
    unfold packE at h
    by_cases a : isK k = true
    · by_cases b : fits k n = true
      · exact ⟨a, b⟩
      · simp [a, b] at h
    · simp [a] at h
  have e : packW k n = n % 1152921504606846976 * 16 + k := by unfold packW; rw [if_pos h1]
  have hk : 0 ≤ k ∧ k < 12 := by simpa [isK] using h1.1
  have e1 : packW k n % 16 = k := by rw [e]; omega
  have e2 : packW k n / 16 = n % 1152921504606846976 := by rw [e]; omega
  have hf := h1.2
  simp only [fits, decide_eq_true_eq] at hf
  have e3 : wordN (packW k n) = n := by
    unfold wordN
    rw [e1, e2]
    by_cases c : k = 1
    · simp only [low, high, if_pos c] at hf
      by_cases d : n < 0
      · rw [if_pos ⟨c, by omega⟩]; omega
      · rw [if_neg (by omega)]; omega
    · simp only [low, high, if_neg c] at hf
      have : mostV k ≤ 137438953536 := by unfold mostV; repeat (first | split | omega)
      rw [if_neg (by omega)]; omega
  refine ⟨?_, e1, e3⟩
  unfold unE
  rw [e1, e3, if_pos h1]

/-- What is unpacked is packed as it was. -/
theorem pack_un {w : Int} (h0 : 0 ≤ w) (h1 : w < 18446744073709551616) (h : unE w = 0) : packE (w % 16) (wordN w) = 0 ∧ packW (w % 16) (wordN w) = w := by
  have hh : isK (w % 16) = true ∧ fits (w % 16) (wordN w) = true := by
    unfold unE at h
    by_cases a : isK (w % 16) = true ∧ fits (w % 16) (wordN w) = true
    · exact a
    · rw [if_neg a] at h; omega
  refine ⟨by unfold packE; rw [if_pos hh.1, if_pos hh.2], ?_⟩
  unfold packW
  rw [if_pos hh]
  unfold wordN
  split <;> omega

/-- The model's own number of a word: its signed value shifted. -/
def sh (w : Int) : Int := (if w < 9223372036854775808 then w else w - 18446744073709551616) / 16

theorem pack_sh {w : Int} (h0 : 0 ≤ w) (h1 : w < 18446744073709551616) : packE (w % 16) (sh w) = 0 ∧ packW (w % 16) (sh w) = w ↔ unE w = 0 := by
  have hs : packE (w % 16) (sh w) = 0 ↔ isK (w % 16) = true ∧ fits (w % 16) (sh w) = true := by
    unfold packE
    by_cases a : isK (w % 16) = true
    · by_cases b : fits (w % 16) (sh w) = true <;> simp [a, b]
    · simp [a]
  have hu : unE w = 0 ↔ isK (w % 16) = true ∧ fits (w % 16) (wordN w) = true := by
    unfold unE
    by_cases a : isK (w % 16) = true ∧ fits (w % 16) (wordN w) = true <;> simp [a]
  have hl : ¬ w % 16 = 1 → mostV (w % 16) ≤ 137438953536 := by intro _; unfold mostV; repeat (first | split | omega)
  have key : fits (w % 16) (sh w) = true ↔ fits (w % 16) (wordN w) = true := by
    simp only [fits, decide_eq_true_eq]
    by_cases c : w % 16 = 1
    · have : sh w = wordN w := by unfold sh wordN; split <;> split <;> omega
      rw [this]
    · have hl' := hl c
      have e : wordN w = w / 16 := by unfold wordN; rw [if_neg (by omega)]
      rw [e]
      simp only [low, high, if_neg c]
      by_cases d : w < 9223372036854775808
      · have : sh w = w / 16 := by unfold sh; rw [if_pos d]
        rw [this]
      · have : sh w = (w - 18446744073709551616) / 16 := by unfold sh; rw [if_neg d]
        rw [this]
        constructor <;> (intro h; omega)
  have hw : isK (w % 16) = true → fits (w % 16) (sh w) = true → packW (w % 16) (sh w) = w := by
    intro a b
    unfold packW
    rw [if_pos ⟨a, b⟩]
    unfold sh
    split <;> omega
  rw [hs, hu, ← key]
  exact ⟨fun h => h.1, fun h => ⟨h, hw h.1 h.2⟩⟩

theorem sh_word {w : Int} (h0 : 0 ≤ w) (h1 : w < 18446744073709551616) (h : unE w = 0) : sh w = wordN w := by
  have hh : isK (w % 16) = true ∧ fits (w % 16) (wordN w) = true := by
    unfold unE at h
    by_cases a : isK (w % 16) = true ∧ fits (w % 16) (wordN w) = true
    · exact a
    · rw [if_neg a] at h; omega
  have hf := hh.2
  simp only [fits, decide_eq_true_eq] at hf
  have hl : ¬ w % 16 = 1 → mostV (w % 16) ≤ 137438953536 := by intro _; unfold mostV; repeat (first | split | omega)
  by_cases c : w % 16 = 1
  · unfold sh wordN; split <;> split <;> omega
  · have hl' := hl c
    have e : wordN w = w / 16 := by unfold wordN; rw [if_neg (by omega)]
    simp only [low, high, if_neg c, e] at hf
    rw [e]
    unfold sh
    rw [if_pos (by omega)]
end Go.Proofs.Ytnedjmjcbmoknaa.Wd
