/- Plain: the size classes of an arena, and which one a number has: said by the program's way and by the document's. No program in sight. -/
import Derived.Lib.BitFns
namespace Go.Proofs.Ytnanacokclcbfaa.Ar
open Go

def cls : Nat → Nat
  | 0 => 2
  | 1 => 3
  | j + 2 => 2 * cls j
theorem cls_even (k : Nat) : cls (2 * k) = 2 ^ (k + 1) := by
  induction k with
  | zero => rfl
  | succ k ih =>
    rw [show 2 * (k + 1) = 2 * k + 2 from by omega, cls, ih, Nat.pow_succ 2 (k + 1)]
    omega
theorem cls_odd (k : Nat) : cls (2 * k + 1) = 3 * 2 ^ k := by
  induction k with
  | zero => rfl
  | succ k ih =>
    rw [show 2 * (k + 1) + 1 = (2 * k + 1) + 2 from by omega, cls, ih, Nat.pow_succ 2 k]
    omega
theorem cls_lt : (j : Nat) → cls j < cls (j + 1)
  | 0 => by decide
  | 1 => by decide
  | j + 2 => by
    have := cls_lt j
    show 2 * cls j < 2 * cls (j + 1)
    omega
theorem cls_mono {i j : Nat} (h : i ≤ j) : cls i ≤ cls j := by
  induction h with
  | refl => exact Nat.le_refl _
  | step _ ih => exact Nat.le_trans ih (Nat.le_of_lt (cls_lt _))
theorem cls_pos (j : Nat) : 2 ≤ cls j := cls_mono (i := 0) (Nat.zero_le j)

/-- c is the least class that is not below n. -/
def IsRnd (n c : Nat) : Prop := ∃ j, c = cls j ∧ n ≤ c ∧ ∀ i, i < j → cls i < n
theorem IsRnd.uniq {n c d : Nat} (h : IsRnd n c) (h' : IsRnd n d) : c = d := by
  obtain ⟨j, rfl, hj, hl⟩ := h
  obtain ⟨j', rfl, hj', hl'⟩ := h'
  rcases Nat.lt_trichotomy j j' with h | h | h
  · have := hl' j h; omega
  · rw [h]
  · have := hl j' h; omega

theorem two_pow_mod (m : Nat) : 2 ^ m % 3 ≠ 0 := by
  induction m with
  | zero => decide
  | succ m ih => rw [Nat.pow_succ]; omega
def nxt (c : Nat) : Nat := if c = 2 then 3 else if c % 3 = 0 then c / 3 * 4 else c / 2 * 3
theorem nxt_cls (j : Nat) : nxt (cls j) = cls (j + 1) := by
  rcases Nat.mod_two_eq_zero_or_one j with h | h
  · obtain ⟨k, rfl⟩ : ∃ k, j = 2 * k := ⟨j / 2, by omega⟩
    rw [cls_odd, cls_even]
    cases k with
    | zero => rfl
    | succ k =>
      have h1 := two_pow_mod (k + 1 + 1)
      have h2 : 0 < 2 ^ k := Nat.two_pow_pos k
      have h3 : 2 ^ (k + 1 + 1) = 4 * 2 ^ k := by rw [Nat.pow_succ, Nat.pow_succ]; omega
      have h4 : 2 ^ (k + 1) = 2 * 2 ^ k := by rw [Nat.pow_succ]; omega
      unfold nxt
      rw [if_neg (by omega), if_neg h1]
      omega
  · obtain ⟨k, rfl⟩ : ∃ k, j = 2 * k + 1 := ⟨j / 2, by omega⟩
    rw [show 2 * k + 1 + 1 = 2 * (k + 1) from by omega, cls_odd, cls_even]
    have h2 : 0 < 2 ^ k := Nat.two_pow_pos k
    have h3 : 2 ^ (k + 1 + 1) = 4 * 2 ^ k := by rw [Nat.pow_succ, Nat.pow_succ]; omega
    unfold nxt
    rw [if_neg (by omega), if_pos (by omega)]
    omega

theorem len_zero (f : Nat) : Lib.bitLenAux f 0 = 0 := by cases f <;> simp [Lib.bitLenAux]
theorem len_aux : (f x : Nat) → x < 2 ^ f → x < 2 ^ Lib.bitLenAux f x ∧ (x ≠ 0 → 1 ≤ Lib.bitLenAux f x ∧ 2 ^ (Lib.bitLenAux f x - 1) ≤ x)
  | 0, x, h => by
    have : x = 0 := by simpa using h
    subst this
    exact ⟨by simp [Lib.bitLenAux], fun h => absurd rfl h⟩
  | f + 1, x, h => by
    by_cases hx : x = 0
    · subst hx
      exact ⟨by simp [Lib.bitLenAux], fun h => absurd rfl h⟩
    · have hs : Lib.bitLenAux (f + 1) x = 1 + Lib.bitLenAux f (x / 2) := by rw [Lib.bitLenAux, if_neg hx]
      have hl : x / 2 < 2 ^ f := by rw [Nat.pow_succ] at h; omega
      obtain ⟨h1, h2⟩ := len_aux f (x / 2) hl
      rw [hs]
      refine ⟨?_, fun _ => ⟨by omega, ?_⟩⟩
      · rw [show 1 + Lib.bitLenAux f (x / 2) = Lib.bitLenAux f (x / 2) + 1 from by omega, Nat.pow_succ]; omega
      · rw [show 1 + Lib.bitLenAux f (x / 2) - 1 = Lib.bitLenAux f (x / 2) from by omega]
        by_cases hz : x / 2 = 0
        · rw [hz, len_zero]; omega
        · obtain ⟨h3, h4⟩ := h2 hz
          have h5 : 2 ^ Lib.bitLenAux f (x / 2) = 2 * 2 ^ (Lib.bitLenAux f (x / 2) - 1) := by
            obtain ⟨a, ha⟩ : ∃ a, Lib.bitLenAux f (x / 2) = a + 1 := ⟨Lib.bitLenAux f (x / 2) - 1, by omega⟩
            rw [ha, Nat.pow_succ]; simp; omega
          omega

/-- The program's way. -/
def rnd (n : Nat) : Nat :=
  let p := max (2 ^ Lib.bitLen (n - 1)) 2
  if n ≤ p / 4 * 3 then p / 4 * 3 else p
theorem rnd_is {n : Nat} (h1 : 1 ≤ n) (h2 : n ≤ 16777216) : IsRnd n (rnd n) := by
  obtain ⟨L, hL⟩ : ∃ L, Lib.bitLen (n - 1) = L := ⟨_, rfl⟩
  have hs := len_aux 64 (n - 1) (by omega)
  have e : Lib.bitLenAux 64 (n - 1) = L := hL
  rw [e] at hs
  have hr : rnd n = if n ≤ max (2 ^ L) 2 / 4 * 3 then max (2 ^ L) 2 / 4 * 3 else max (2 ^ L) 2 := by unfold rnd; rw [hL]
  rw [hr]
  by_cases hn1 : n = 1
  · subst hn1
    have : L = 0 := by rw [← hL]; rfl
    subst this
    exact ⟨0, rfl, by decide, fun i hi => by omega⟩
  · obtain ⟨h3, h4⟩ := hs.2 (by omega)
    by_cases hL1 : L = 1
    · subst hL1
      have : n = 2 := by have := hs.1; omega
      subst this
      exact ⟨0, rfl, by decide, fun i hi => by omega⟩
    · obtain ⟨k, rfl⟩ : ∃ k, L = k + 2 := ⟨L - 2, by omega⟩
      have p0 : 0 < 2 ^ k := Nat.two_pow_pos k
      have p2 : 2 ^ (k + 2) = 4 * 2 ^ k := by rw [Nat.pow_succ, Nat.pow_succ]; omega
      have p1 : 2 ^ (k + 2 - 1) = 2 * 2 ^ k := by rw [show k + 2 - 1 = k + 1 from rfl, Nat.pow_succ]; omega
      rw [p1] at h4
      have h5 := hs.1
      rw [p2] at h5
      have hm : max (2 ^ (k + 2)) 2 = 4 * 2 ^ k := by rw [p2]; omega
      rw [hm]
      have h6 : 4 * 2 ^ k / 4 * 3 = 3 * 2 ^ k := by omega
      rw [h6]
      by_cases hle : n ≤ 3 * 2 ^ k
      · rw [if_pos hle]
        refine ⟨2 * k + 1, (cls_odd k).symm, hle, fun i hi => ?_⟩
        have := cls_mono (i := i) (j := 2 * k) (by omega)
        rw [cls_even, Nat.pow_succ] at this
        omega
      · rw [if_neg hle]
        refine ⟨2 * (k + 1), by rw [cls_even, Nat.pow_succ, Nat.pow_succ]; omega, by omega, fun i hi => ?_⟩
        have := cls_mono (i := i) (j := 2 * k + 1) (by omega)
        rw [cls_odd] at this
        omega

theorem rnd_ge {n : Nat} (h1 : 1 ≤ n) (h2 : n ≤ 16777216) : n ≤ rnd n := by obtain ⟨_, _, h, _⟩ := rnd_is h1 h2; exact h
theorem rnd_lt {n : Nat} (h1 : 1 ≤ n) (h2 : n ≤ 16777216) : rnd n ≤ 2 * n := by
  obtain ⟨j, h, _, h3⟩ := rnd_is h1 h2
  rw [h]
  cases j with
  | zero => simp [cls]; omega
  | succ j =>
    have h4 := h3 j (by omega)
    have h5 : cls (j + 1) ≤ 2 * cls j := by
      have := cls_lt (j + 1)
      have e : cls (j + 2) = 2 * cls j := rfl
      rw [show j + 1 + 1 = j + 2 from rfl, e] at this
      omega
    omega

/-- What Round answers, of any number. -/
def rndI (n : Int) : Int := if n < 1 ∨ 16777216 < n then 0 else (rnd n.toNat : Int)
end Go.Proofs.Ytnanacokclcbfaa.Ar
