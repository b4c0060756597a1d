/- Plain: the texts of a list put one by one; which numbers they get. -/
import Derived.Test.YtnomnkohhfkdnaaAtomSpec
namespace Go.Proofs.Ytnomnkohhfkdnaa.At
open Go.RowKit K
set_option linter.unusedVariables false
set_option linter.unusedSimpArgs false

def gs (xs : List ByteArray) (k : Nat) : List ByteArray := (xs.take k).foldl inL []
theorem gs_zero (xs : List ByteArray) : gs xs 0 = [] := rfl
theorem gs_succ {xs : List ByteArray} {k : Nat} {s : ByteArray} (h : xs[k]? = some s) : gs xs (k + 1) = inL (gs xs k) s := by
  unfold gs
  obtain ⟨hk, rfl⟩ := List.getElem?_eq_some_iff.1 h
  rw [List.take_succ_eq_append_getElem hk, List.foldl_append]
  rfl
theorem inL_ext (L : List ByteArray) (s : ByteArray) : ∃ r, inL L s = L ++ r := by
  unfold inL
  split
  · exact ⟨[], by simp⟩
  · split
    · exact ⟨[], by simp⟩
    · split
      · exact ⟨[], by simp⟩
      · exact ⟨[s], rfl⟩
theorem inL_len (L : List ByteArray) (s : ByteArray) : (inL L s).length ≤ L.length + 1 := by
  unfold inL
  split
  · omega
  · split
    · omega
    · split
      · omega
      · simp
theorem inL_bytes (L : List ByteArray) (s : ByteArray) : bytesOf (inL L s) ≤ bytesOf L + 64 := by
  unfold inL
  split
  · omega
  · split
    · omega
    · split
      · omega
      · rw [bytesOf_append]; omega
theorem gs_small (xs : List ByteArray) : ∀ k, k ≤ xs.length → (gs xs k).length ≤ k ∧ bytesOf (gs xs k) ≤ 64 * k
  | 0, _ => by simp [gs, bytesOf]
  | k + 1, h => by
    have ih := gs_small xs k (by omega)
    have hg := gs_succ (List.getElem?_eq_getElem (show k < xs.length by omega))
    rw [hg]
    have h1 := inL_len (gs xs k) (xs[k]'(by omega))
    have h2 := inL_bytes (gs xs k) (xs[k]'(by omega))
    omega
theorem gs_ext (xs : List ByteArray) (k : Nat) : ∀ m, k ≤ m → m ≤ xs.length → ∃ r, gs xs m = gs xs k ++ r := by
  intro m hkm
  induction m with
  | zero =>
    intro _
    have hk0 : k = 0 := by omega
    subst hk0
    exact ⟨[], by simp⟩
  | succ m ih =>
    intro hm
    rcases Nat.lt_or_ge m k with h | h
    · obtain rfl : k = m + 1 := by omega
      exact ⟨[], by simp⟩
    · obtain ⟨r, hr⟩ := ih h (by omega)
      rw [gs_succ (List.getElem?_eq_getElem (show m < xs.length by omega)), hr]
      obtain ⟨r', hr'⟩ := inL_ext (gs xs k ++ r) (xs[m]'(by omega))
      exact ⟨r ++ r', by rw [hr', List.append_assoc]⟩
/-- The number of a text, in the end. -/
def num (xs : List ByteArray) (s : ByteArray) : Nat := idx (gs xs xs.length) s

section
variable {xs : List ByteArray} {k : Nat} {s : ByteArray}
theorem once_step (h60 : xs.length ≤ 60) (h : xs[k]? = some s) (hs : s.size ≤ 64) :
    inE (gs xs k) s = 0 ∧ inN (gs xs k) s = (num xs s : Int) ∧ s ∈ gs xs (k + 1) ∧ num xs s < (gs xs (k + 1)).length ∧
      (num xs s < (gs xs k).length ∧ gs xs (k + 1) = gs xs k ∨ num xs s = (gs xs k).length ∧ (gs xs (k + 1)).length = (gs xs k).length + 1) := by
  have hk : k < xs.length := (List.getElem?_eq_some_iff.1 h).1
  have hsm := gs_small xs k (by omega)
  have hg := gs_succ h
  have hb : ¬ 64 < s.size := by omega
  have hf : full (gs xs k) s = false := by unfold full; simp; omega
  obtain ⟨r, hr⟩ := gs_ext xs (k + 1) xs.length (by omega) (Nat.le_refl _)
  by_cases hm : s ∈ gs xs k
  · have e : inL (gs xs k) s = gs xs k := by unfold inL; rw [if_neg hb, if_pos hm]
    rw [e] at hg
    have hn : num xs s = idx (gs xs k) s := by unfold num; rw [hr, hg, idx_append_mem hm]
    have := idx_lt hm
    refine ⟨by unfold inE; rw [if_neg hb, if_pos hm], by unfold inN; rw [if_neg hb, if_pos hm, hn], by rw [hg]; exact hm, by rw [hg, hn]; exact this, .inl ⟨by rw [hn]; exact this, hg⟩⟩
  · have e : inL (gs xs k) s = gs xs k ++ [s] := by unfold inL; rw [if_neg hb, if_neg hm, hf]; simp
    rw [e] at hg
    have hmem : s ∈ gs xs (k + 1) := by rw [hg]; simp
    have hn : num xs s = (gs xs k).length := by unfold num; rw [hr, idx_append_mem hmem, hg, idx_append_new hm]
    have hl : (gs xs (k + 1)).length = (gs xs k).length + 1 := by rw [hg]; simp
    refine ⟨by unfold inE; rw [if_neg hb, if_neg hm, hf]; simp, by unfold inN; rw [if_neg hb, if_neg hm, hf, hn]; simp, hmem, by omega, .inr ⟨hn, hl⟩⟩
theorem once_mem (h60 : xs.length ≤ 60) (h : xs[k]? = some s) (hs : s.size ≤ 64) : s ∈ gs xs xs.length := by
  have hk : k < xs.length := (List.getElem?_eq_some_iff.1 h).1
  obtain ⟨r, hr⟩ := gs_ext xs (k + 1) xs.length (by omega) (Nat.le_refl _)
  rw [hr]
  exact List.mem_append_left _ (once_step h60 h hs).2.2.1
theorem once_inj {j : Nat} {t : ByteArray} (h60 : xs.length ≤ 60) (h : xs[k]? = some s) (hs : s.size ≤ 64) (h' : xs[j]? = some t) (ht : t.size ≤ 64) : num xs s = num xs t ↔ s = t := by
  constructor
  · intro e
    have h1 := idx_get (once_mem h60 h hs)
    have h2 := idx_get (once_mem h60 h' ht)
    unfold num at e
    rw [e, h2] at h1
    injection h1 with h1
    exact h1.symm
  · intro e; rw [e]
theorem once_get (h60 : xs.length ≤ 60) (h : xs[k]? = some s) (hs : s.size ≤ 64) : (gs xs xs.length)[num xs s]? = some s := idx_get (once_mem h60 h hs)
end
end Go.Proofs.Ytnomnkohhfkdnaa.At
