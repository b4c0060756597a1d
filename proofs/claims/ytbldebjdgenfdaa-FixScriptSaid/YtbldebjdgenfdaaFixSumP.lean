/- Plain: how often all together fix is the sum over who fixes. No program in sight. -/
import Derived.Test.YtbldebjdgenfdaaLaw12
namespace Go.Proofs.Ytbldebjdgenfdaa.Fx
set_option linter.unusedVariables false
set_option linter.unusedSimpArgs false
def S (f : Int → Nat) : List Int → Nat
  | [] => 0
  | a :: r => f a + S f r
theorem S_append (f : Int → Nat) (l l' : List Int) : S f (l ++ l') = S f l + S f l' := by
  induction l with
  | nil => simp [S]
  | cons a r ih => simp [S, ih]; omega
theorem S_take_le (f : Int → Nat) (l : List Int) (k : Nat) : S f (l.take k) ≤ S f l := by
  have := S_append f (l.take k) (l.drop k)
  rw [List.take_append_drop] at this
  omega
theorem S_take_succ (f : Int → Nat) {l : List Int} {k : Nat} {x : Int} (h : l[k]? = some x) : S f (l.take (k + 1)) = S f (l.take k) + f x := by
  rw [List.take_add_one, h, S_append]
  simp [S]
theorem S_ins (f : Int → Nat) (a : Int) {H : List Int} (h : H.Pairwise (· < ·)) : S f (ins a H) = S f H + if a ∈ H then 0 else f a := by
  induction H with
  | nil => simp [ins, S]
  | cons b r ih =>
    have h1 : ∀ y ∈ r, b < y := fun y hy => List.rel_of_pairwise_cons h hy
    have h2 : r.Pairwise (· < ·) := List.Pairwise.of_cons h
    simp only [ins]
    split
    · rename_i hx
      have hn : a ∉ b :: r := fun hm => by
        rcases List.mem_cons.1 hm with e | e
        · omega
        · have := h1 a e; omega
      rw [if_neg hn]
      simp [S]; omega
    · split
      · rename_i hx; subst hx; simp
      · rename_i hx1 hx2
        have e : a ∈ b :: r ↔ a ∈ r := by simp [hx2]
        simp only [S, ih h2]
        by_cases hm : a ∈ r
        · rw [if_pos hm, if_pos (e.2 hm)]; omega
        · rw [if_neg hm, if_neg (fun h => hm (e.1 h))]; omega
theorem S_cnt (a : Int) (L : List Int) {H : List Int} (h : H.Pairwise (· < ·)) : S (cnt (a :: L)) H = S (cnt L) H + if a ∈ H then 1 else 0 := by
  induction H with
  | nil => simp [S]
  | cons b r ih =>
    have h1 : ∀ y ∈ r, b < y := fun y hy => List.rel_of_pairwise_cons h hy
    have h2 : r.Pairwise (· < ·) := List.Pairwise.of_cons h
    show cnt (a :: L) b + S (cnt (a :: L)) r = cnt L b + S (cnt L) r + _
    rw [ih h2, show cnt (a :: L) b = if a = b then cnt L b + 1 else cnt L b from rfl]
    by_cases e : a = b
    · subst e
      have hn : a ∉ r := fun hm => by have := h1 a hm; omega
      simp [hn]; omega
    · by_cases hm : a ∈ r
      · simp [e, hm]; omega
      · simp [e, hm]
theorem S_hold (L : List Int) : S (cnt L) (hold L) = L.length := by
  induction L with
  | nil => simp [S, hold]
  | cons a r ih =>
    simp only [hold]
    rw [S_ins _ a (hold_sorted r), S_cnt a r (hold_sorted r), ih]
    by_cases hm : a ∈ hold r
    · simp [hm]
    · have h0 : cnt r a = 0 := by
        rcases Nat.eq_zero_or_pos (cnt r a) with h | h
        · exact h
        · exact absurd ((hold_mem r a).2 (cnt_pos.1 h)) hm
      simp [hm, cnt, h0]
theorem hold_cnt {L : List Int} {x : Int} {k : Nat} (h : (hold L)[k]? = some x) : 1 ≤ cnt L x := cnt_pos.2 ((hold_mem L x).1 (List.mem_of_getElem? h))
theorem hold_step {L : List Int} {x y : Int} {k : Nat} (h : (hold L)[k]? = some x) (h' : (hold L)[k + 1]? = some y) : x < y := by
  have hp := hold_sorted L
  rw [List.pairwise_iff_getElem] at hp
  obtain ⟨h1, e1⟩ := List.getElem?_eq_some_iff.1 h
  obtain ⟨h2, e2⟩ := List.getElem?_eq_some_iff.1 h'
  rw [← e1, ← e2]
  exact hp k (k + 1) h1 h2 (by omega)
theorem cnt_mem_bound {L : List Int} (h : ∀ x ∈ L, 0 ≤ x ∧ x < 4) {x : Int} (hx : x ∈ L) : 0 ≤ x ∧ x < 4 := h x hx
end Go.Proofs.Ytbldebjdgenfdaa.Fx
