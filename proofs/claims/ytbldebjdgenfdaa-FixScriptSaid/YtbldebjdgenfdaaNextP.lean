/- The next holder: plain. -/
import Derived.Test.YtbldebjdgenfdaaFixSumP
namespace Go.Proofs.Ytbldebjdgenfdaa.Fx
open K
set_option linter.unusedVariables false
set_option linter.unusedSimpArgs false

/-- The least number of a list above one; -1: there is none. -/
def nxS (last n x : Int) : Int := if last < x ∧ (n < 0 ∨ x < n) then x else n
def nx (last : Int) (L : List Int) : Int := L.foldl (nxS last) (-1)
theorem nx_take_succ {L : List Int} {k : Nat} {x : Int} (h : L[k]? = some x) (last : Int) : nx last (L.take (k + 1)) = nxS last (nx last (L.take k)) x := by
  unfold nx
  rw [List.take_add_one, h]
  simp
theorem nx_spec (last : Int) (hl : -1 ≤ last) (L : List Int) (hL : ∀ x ∈ L, 0 ≤ x) : ∀ k, k ≤ L.length → (nx last (L.take k) = -1 ∧ ∀ x ∈ L.take k, x ≤ last) ∨ (nx last (L.take k) ∈ L.take k ∧ last < nx last (L.take k) ∧ ∀ x ∈ L.take k, last < x → nx last (L.take k) ≤ x)
  | 0, _ => .inl ⟨rfl, fun x h => by simp at h⟩
  | k + 1, hk => by
    have ih := nx_spec last hl L hL k (by omega)
    obtain ⟨x, hx⟩ : ∃ x, L[k]? = some x := ⟨_, List.getElem?_eq_getElem (by omega)⟩
    have hx0 := hL x (List.mem_of_getElem? hx)
    rw [nx_take_succ hx]
    have hm : ∀ y, y ∈ L.take (k + 1) ↔ y ∈ L.take k ∨ y = x := fun y => by rw [List.take_add_one, hx]; simp
    unfold nxS
    rcases ih with ⟨e, h⟩ | ⟨e1, e2, h⟩
    · rw [e]
      by_cases hc : last < x
      · rw [if_pos ⟨hc, .inl (by omega)⟩]
        exact .inr ⟨(hm x).2 (.inr rfl), hc, fun y hy hly => by
          rcases (hm y).1 hy with h1 | h1
          · have := h y h1; omega
          · omega⟩
      · rw [if_neg (fun h => hc h.1)]
        exact .inl ⟨rfl, fun y hy => by
          rcases (hm y).1 hy with h1 | h1
          · exact h y h1
          · omega⟩
    · by_cases hc : last < x ∧ (nx last (L.take k) < 0 ∨ x < nx last (L.take k))
      · rw [if_pos hc]
        exact .inr ⟨(hm x).2 (.inr rfl), hc.1, fun y hy hly => by
          rcases (hm y).1 hy with h1 | h1
          · have := h y h1 hly; omega
          · omega⟩
      · rw [if_neg hc]
        exact .inr ⟨(hm _).2 (.inl e1), e2, fun y hy hly => by
          rcases (hm y).1 hy with h1 | h1
          · exact h y h1 hly
          · subst h1
            have : ¬ (nx last (L.take k) < 0 ∨ y < nx last (L.take k)) := fun h => hc ⟨hly, h⟩
            omega⟩
/-- The last one told. -/
def lastOf (H : List Int) : Nat → Int
  | 0 => -1
  | k + 1 => (H[k]?).getD (-1)
theorem lastOf_ge {L : List Int} (hL : ∀ x ∈ L, 0 ≤ x) (k : Nat) : -1 ≤ lastOf (hold L) k := by
  cases k with
  | zero => exact Int.le_refl _
  | succ k =>
    show -1 ≤ ((hold L)[k]?).getD (-1)
    cases h : (hold L)[k]? with
    | none => simp
    | some x => have := hL x ((hold_mem L x).1 (List.mem_of_getElem? h)); simp; omega
theorem nx_hold {L : List Int} (hL : ∀ x ∈ L, 0 ≤ x) {k : Nat} (hk : k ≤ (hold L).length) : nx (lastOf (hold L) k) L = ((hold L)[k]?).getD (-1) := by
  have hs := nx_spec (lastOf (hold L) k) (lastOf_ge hL k) L hL L.length (Nat.le_refl _)
  rw [List.take_length] at hs
  have hp := hold_sorted L
  rw [List.pairwise_iff_getElem] at hp
  obtain ⟨H, hH⟩ : ∃ H, hold L = H := ⟨_, rfl⟩
  have hmem := hold_mem L
  rw [hH] at hs hp hk hmem ⊢
  -- who is above the last one stands from place k on
  have hpos : ∀ (j : Nat) (hj : j < H.length), lastOf H k < H[j] ↔ k ≤ j := fun j hj => by
    cases k with
    | zero =>
      have h1 := hL H[j] ((hmem _).1 (List.getElem_mem hj))
      show -1 < H[j] ↔ _
      constructor
      · intro _; omega
      · intro _; omega
    | succ k =>
      have hkl : k < H.length := by omega
      show (H[k]?).getD (-1) < H[j] ↔ _
      rw [List.getElem?_eq_getElem hkl]
      show H[k] < H[j] ↔ _
      rcases Nat.lt_trichotomy k j with h | h | h
      · have := hp k j hkl hj h
        exact ⟨fun _ => h, fun _ => this⟩
      · subst h
        exact ⟨fun h => absurd h (by omega), fun h => by omega⟩
      · have := hp j k hj hkl h
        exact ⟨fun h => by omega, fun h => by omega⟩
  rcases hs with ⟨e, h⟩ | ⟨e1, e2, h⟩
  · rw [e]
    rcases Nat.lt_or_ge k H.length with hlt | hge
    · have h1 := (hpos k hlt).2 (Nat.le_refl _)
      have h2 := h H[k] ((hmem _).1 (List.getElem_mem hlt))
      omega
    · rw [List.getElem?_eq_none hge]; rfl
  · obtain ⟨j, hj, hje⟩ := List.getElem_of_mem ((hmem _).2 e1)
    have hkj := (hpos j hj).1 (by rw [hje]; exact e2)
    have hlt : k < H.length := by omega
    rw [List.getElem?_eq_getElem hlt]
    show nx (lastOf H k) L = H[k]
    have h1 := (hpos k hlt).2 (Nat.le_refl _)
    have h2 := h H[k] ((hmem _).1 (List.getElem_mem hlt)) h1
    rcases Nat.eq_or_lt_of_le hkj with h3 | h3
    · subst h3; exact hje.symm
    · have := hp k j hlt hj h3
      omega
end Go.Proofs.Ytbldebjdgenfdaa.Fx
