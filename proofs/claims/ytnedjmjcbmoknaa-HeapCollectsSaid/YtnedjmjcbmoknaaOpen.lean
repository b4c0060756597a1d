/- Arguments opened: a slice of strings, of integers, as 'Reads'. No program in sight. -/
import Derived.Test.YtnedjmjcbmoknaaRows2
import Derived.SliceStrings
import Derived.ProofKit
import Derived.OpenShut
namespace Go.Proofs.Ytnedjmjcbmoknaa.K
open Go.RowKit Go.ChangeShapes Go.WideShapes
set_option linter.unusedVariables false
set_option linter.unusedSimpArgs false

section
variable {H : Type} {enc : TypeId × Value → H} {P : Program} {W : World}
theorem open_strs_arg {t e : TypeId} {v : Value} {d : DataW H} {p : List MemPlace} {r : Reach} {b0 base : Nat} {held : Bool} (ht : P.underlying t = some (.slice e)) (he : P.underlying e = some .string) (hc : P.cellsOf e = 1)
    (o : Value.okWide P W r b0 t v) (h : DataW.Trod enc P W base (fun _ => true) held t v d p) :
    ∃ (A : Option Addr) (c : Nat) (xs : List ByteArray), v = .slice A xs.length c ∧ Reads W W.heap.size 1 A xs.length (xs.map Value.string) ∧ (∀ s ∈ xs, s.size ≤ maxLen) ∧ xs.length ≤ c ∧ c ≤ maxLen ∧ (A = none → c = 0) := by
  obtain ⟨a, n, c, rfl⟩ := okWide_slice ht o
  obtain ⟨fuel, hf⟩ := h
  rcases open_strings ht he hc hf with ⟨hcs, _⟩ | ⟨a', len, cap, ss, hcs, _, hl, hm, hz, _, hcell, hws⟩
  · simp [Value.cells] at hcs
    obtain ⟨rfl, rfl, rfl⟩ := hcs
    exact ⟨none, 0, [], rfl, Reads.none_, by simp, by simp, by simp [maxLen], fun _ => rfl⟩
  · simp [Value.cells] at hcs
    obtain ⟨rfl, rfl, rfl⟩ := hcs
    simp only [if_true] at hz
    have hlen : (ss.take n).length = n := by rw [List.length_take]; omega
    refine ⟨some a', c, ss.take n, by rw [hlen], ⟨by rw [List.length_map]; omega, fun hpos => ?_⟩, fun s hs => hws s (List.mem_of_mem_take hs), by rw [hlen]; exact hl, hm, fun h => by cases h⟩
    rw [hlen] at hpos
    have hb := World.block_lt_of_cell? _ _ (hcell 0 (by omega))
    rw [block_of_add] at hb
    refine ⟨a', rfl, hb, fun j u hj => ?_⟩
    have hjl : j < n := by
      have := (List.getElem?_eq_some_iff.1 hj).1
      rw [List.length_map, hlen] at this
      exact this
    rw [hcell j (by omega)]
    rw [List.getElem?_map, List.getElem?_take, if_pos hjl] at hj
    have : ss[j]? = some (ss[j]'(by omega)) := List.getElem?_eq_getElem (by omega)
    rw [this] at hj
    simp at hj
    rw [← hj]
    simp [List.getD, this]
theorem open_ints_arg {t e : TypeId} {k : IntKind} {v : Value} {d : DataW H} {p : List MemPlace} {r : Reach} {b0 base : Nat} {held : Bool} (ht : P.underlying t = some (.slice e)) (he : P.underlying e = some (.int k)) (hc : P.cellsOf e = 1)
    (o : Value.okWide P W r b0 t v) (h : DataW.Trod enc P W base (fun _ => true) held t v d p) :
    ∃ (A : Option Addr) (c : Nat) (xs : List Int), v = .slice A xs.length c ∧ Reads W W.heap.size 1 A xs.length (xs.map (Value.int k)) ∧ (∀ n ∈ xs, (Lit.int k n).wf = true) ∧ xs.length ≤ c ∧ c ≤ maxLen ∧ (A = none → c = 0) := by
  obtain ⟨a, n, c, rfl⟩ := okWide_slice ht o
  obtain ⟨fuel, hf⟩ := h
  rcases open_ints ht he hc hf with ⟨hcs, _⟩ | ⟨a', len, cap, ss, hcs, _, hl, hm, hz, _, hcell, hws⟩
  · simp [Value.cells] at hcs
    obtain ⟨rfl, rfl, rfl⟩ := hcs
    exact ⟨none, 0, [], rfl, Reads.none_, by simp, by simp, by simp [maxLen], fun _ => rfl⟩
  · simp [Value.cells] at hcs
    obtain ⟨rfl, rfl, rfl⟩ := hcs
    simp only [if_true] at hz
    have hlen : (ss.take n).length = n := by rw [List.length_take]; omega
    refine ⟨some a', c, ss.take n, by rw [hlen], ⟨by rw [List.length_map]; omega, fun hpos => ?_⟩, fun s hs => hws s (List.mem_of_mem_take hs), by rw [hlen]; exact hl, hm, fun h => by cases h⟩
    rw [hlen] at hpos
    have hb := World.block_lt_of_cell? _ _ (hcell 0 (by omega))
    rw [block_of_add] at hb
    refine ⟨a', rfl, hb, fun j u hj => ?_⟩
    have hjl : j < n := by
      have := (List.getElem?_eq_some_iff.1 hj).1
      rw [List.length_map, hlen] at this
      exact this
    rw [hcell j (by omega)]
    rw [List.getElem?_map, List.getElem?_take, if_pos hjl] at hj
    have : ss[j]? = some (ss[j]'(by omega)) := List.getElem?_eq_getElem (by omega)
    rw [this] at hj
    simp at hj
    rw [← hj]
    simp [List.getD, this]
end
end Go.Proofs.Ytnedjmjcbmoknaa.K
