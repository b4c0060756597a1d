/- Plain: a number rounded up is a class itself, wastes little, and classes rise. No program in sight. -/
import Derived.Test.YtnanacokclcbfaaRnd
namespace Go.Proofs.Ytnanacokclcbfaa.Ar
theorem cls_step : (j : Nat) → 2 * cls (j + 1) ≤ 3 * cls j
  | 0 => by decide
  | 1 => by decide
  | j + 2 => by
    have := cls_step j
    show 2 * (2 * cls (j + 1)) ≤ 3 * (2 * cls j)
    omega
theorem rnd_max {n : Nat} (h1 : 1 ≤ n) (h2 : n ≤ 16777216) : rnd n ≤ 16777216 := by
  obtain ⟨j, h, _, h3⟩ := rnd_is h1 h2
  have e : cls 46 = 16777216 := by
    have := cls_even 23
    rw [show 2 * 23 = 46 from rfl] at this
    rw [this]
  rcases Nat.lt_or_ge 46 j with hj | hj
  · have := h3 46 hj; omega
  · have := cls_mono hj
    rw [e] at this
    omega
theorem rnd_self {n : Nat} (h1 : 1 ≤ n) (h2 : n ≤ 16777216) : rnd (rnd n) = rnd n := by
  obtain ⟨j, h, _, _⟩ := rnd_is h1 h2
  refine IsRnd.uniq (rnd_is (Nat.le_trans h1 (rnd_ge h1 h2)) (rnd_max h1 h2)) ⟨j, h, Nat.le_refl _, fun i hi => ?_⟩
  rw [h]
  exact Nat.lt_of_lt_of_le (cls_lt i) (cls_mono hi)
theorem rnd_waste {n : Nat} (h1 : 1 < n) (h2 : n ≤ 16777216) : 2 * rnd n < 3 * n := by
  obtain ⟨j, h, _, h3⟩ := rnd_is (by omega) h2
  rw [h]
  cases j with
  | zero => simp [cls]; omega
  | succ j =>
    have := h3 j (by omega)
    have := cls_step j
    omega
theorem rnd_one : rnd 1 = 2 := by decide
theorem rnd_mono {n m : Nat} (h1 : 1 ≤ n) (h2 : m ≤ 16777216) (h : n ≤ m) : rnd n ≤ rnd m := by
  obtain ⟨j, e, _, h3⟩ := rnd_is h1 (by omega)
  obtain ⟨j', e', h4, _⟩ := rnd_is (n := m) (by omega) h2
  rw [e, e']
  rcases Nat.lt_or_ge j' j with hj | hj
  · have := h3 j' hj; omega
  · exact cls_mono hj
end Go.Proofs.Ytnanacokclcbfaa.Ar
