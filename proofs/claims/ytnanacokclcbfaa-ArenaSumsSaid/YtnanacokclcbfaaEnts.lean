/- Plain: the blocks that are there, with their numbers, one after the other. -/
import Derived.Test.YtnanacokclcbfaaBlocks
import Derived.Test.YtnanacokclcbfaaArenaS
namespace Go.Proofs.Ytnanacokclcbfaa.Ar
open Go.RowKit K
set_option linter.unusedVariables false
set_option linter.unusedSimpArgs false

abbrev Held := List (Int × List Int)
def ents : Nat → Bks → Held
  | _, [] => []
  | i, none :: r => ents (i + 1) r
  | i, some l :: r => ((i : Int), l) :: ents (i + 1) r
def sumOf : Held → Nat
  | [] => 0
  | p :: r => rnd p.2.length + sumOf r
theorem ents_fst (i : Nat) (B : Bks) : (ents i B).map Prod.fst = ksFrom i B := by
  induction B generalizing i with
  | nil => rfl
  | cons o r ih => cases o <;> simp [ents, ksFrom, ih]
theorem ents_length (i : Nat) (B : Bks) : (ents i B).length = (ksFrom i B).length := by rw [← ents_fst, List.length_map]
theorem ents_sum (i : Nat) (B : Bks) : sumOf (ents i B) = used B := by
  induction B generalizing i with
  | nil => rfl
  | cons o r ih => cases o <;> simp [ents, sumOf, used, ih]
theorem ents_append (i : Nat) (B : Bks) (ws : List Int) : ents i (B ++ [some ws]) = ents i B ++ [(((i + B.length : Nat) : Int), ws)] := by
  induction B generalizing i with
  | nil => simp [ents]
  | cons o r ih =>
    have e : i + 1 + r.length = i + (r.length + 1) := by omega
    cases o <;> simp only [List.cons_append, ents, ih, List.length_cons, e]
theorem sumOf_append (H H' : Held) : sumOf (H ++ H') = sumOf H + sumOf H' := by
  induction H with
  | nil => simp [sumOf]
  | cons p r ih => simp [sumOf, ih]; omega
/-- The entry at j: its number, its words; what a turn and an end of its block make of the list. -/
theorem ents_at {i j : Nat} {B : Bks} {p : Int × List Int} (h : (ents i B)[j]? = some p) :
    ∃ q : Nat, p.1 = ((i + q : Nat) : Int) ∧ B[q]? = some (some p.2) ∧ (∀ ws, ents i (B.set q (some ws)) = (ents i B).set j (p.1, ws)) ∧ ents i (B.set q none) = (ents i B).take j ++ (ents i B).drop (j + 1) := by
  induction B generalizing i j with
  | nil => simp [ents] at h
  | cons o r ih =>
    cases o with
    | none =>
      obtain ⟨q, h1, h2, h3, h4⟩ := ih (i := i + 1) (j := j) (by simpa [ents] using h)
      exact ⟨q + 1, by rw [h1]; congr 1; omega, by simpa using h2, fun ws => by simp [ents, h3], by simp [ents, h4]⟩
    | some l =>
      cases j with
      | zero =>
        simp [ents] at h
        subst h
        exact ⟨0, by simp, by simp, fun ws => by simp [ents], by simp [ents]⟩
      | succ j =>
        obtain ⟨q, h1, h2, h3, h4⟩ := ih (i := i + 1) (j := j) (by simpa [ents] using h)
        exact ⟨q + 1, by rw [h1]; congr 1; omega, by simpa using h2, fun ws => by simp [ents, h3], by simp [ents, h4]⟩
/-- .. in the words of the arena's calls. -/
theorem ents_bAt {j : Nat} {B : Bks} {p : Int × List Int} (h : (ents 1 B)[j]? = some p) :
    bAt B p.1 = some p.2 ∧ 1 ≤ p.1 ∧ p.1 ≤ B.length ∧ (∀ ws, ents 1 (B.set (p.1 - 1).toNat (some ws)) = (ents 1 B).set j (p.1, ws)) ∧ ents 1 (B.set (p.1 - 1).toNat none) = (ents 1 B).take j ++ (ents 1 B).drop (j + 1) := by
  obtain ⟨q, h1, h2, h3, h4⟩ := ents_at h
  have hq := (List.getElem?_eq_some_iff.1 h2).1
  have e : (p.1 - 1).toNat = q := by omega
  refine ⟨?_, by omega, by omega, by rw [e]; exact h3, by rw [e]; exact h4⟩
  unfold bAt
  rw [if_neg (by omega), e, h2]
  rfl
theorem ents_get {j : Nat} {B : Bks} {p : Int × List Int} (h : (ents 1 B)[j]? = some p) : gtE B p.1 = 0 ∧ gtL B p.1 = p.2 := by
  have h1 := (ents_bAt h).1
  unfold gtE gtL
  rw [h1]
  simp
theorem ents_drop {j : Nat} {B : Bks} {p : Int × List Int} (h : (ents 1 B)[j]? = some p) : gtE B p.1 = 0 ∧ ents 1 (dpB B p.1) = (ents 1 B).take j ++ (ents 1 B).drop (j + 1) := by
  obtain ⟨h1, _, _, _, h4⟩ := ents_bAt h
  unfold gtE dpB
  rw [h1]
  simpa using h4
theorem ents_set {j : Nat} {B : Bks} {p : Int × List Int} (h : (ents 1 B)[j]? = some p) (hB : LenOk B) (ws : List Int) (hl : ws.length = p.2.length) : stE B p.1 ws.length = 0 ∧ ents 1 (stB B p.1 ws) = (ents 1 B).set j (p.1, ws) := by
  obtain ⟨h1, _, _, h3, _⟩ := ents_bAt h
  have h2 := hB.at_ h1
  unfold stE stB
  rw [h1]
  simp only [hl]
  exact ⟨by simp, by simpa using h3 ws⟩
theorem ents_take (all : Nat) (B : Bks) (ws : List Int) (h1 : 1 ≤ ws.length) (h2 : ws.length ≤ 16777216) :
    (used B + rnd ws.length ≤ all → tkE all B ws.length = 0 ∧ tkN all B ws.length = (B.length : Int) + 1 ∧ ents 1 (tkB all B ws) = ents 1 B ++ [((B.length : Int) + 1, ws)]) ∧ (¬ used B + rnd ws.length ≤ all → tkE all B ws.length = 11 ∧ tkB all B ws = B) := by
  unfold tkE tkN tkB
  have h3 : ¬ (ws.length < 1 ∨ 16777216 < ws.length) := by omega
  refine ⟨fun h => ?_, fun h => ?_⟩
  · rw [if_neg h3, if_pos h, if_neg h3, if_pos h, if_neg h3, if_pos h, ents_append]
    refine ⟨rfl, rfl, ?_⟩
    congr 2
    rw [show ((1 + B.length : Nat) : Int) = (B.length : Int) + 1 by omega]
  · rw [if_neg h3, if_neg h, if_neg h3, if_neg h]
    exact ⟨rfl, rfl⟩
end Go.Proofs.Ytnanacokclcbfaa.Ar
