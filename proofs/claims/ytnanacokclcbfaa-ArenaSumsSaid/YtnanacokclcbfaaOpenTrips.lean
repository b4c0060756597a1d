/- An argument opened: a slice of structs of three one-cell fields. No program in sight. -/
import Derived.Test.YtnanacokclcbfaaOpen
import Derived.Test.YtnanacokclcbfaaRows2
import Derived.Deep.Slices
import Derived.Deep.SlicePairs
import Derived.ChangeSame
namespace Go.Proofs.Ytnanacokclcbfaa.K
open Go.RowKit Go.ChangeShapes Go.WideShapes Go.Deep
set_option linter.unusedVariables false
set_option linter.unusedSimpArgs false

theorem add_plain3 (b o n : Nat) : (⟨b, o, none⟩ : Addr).add n = ⟨b, o + n, none⟩ := by
  unfold Addr.add
  split
  · rename_i h; simp [h]
  · simp
section
variable {H : Type} {enc : TypeId × Value → H} {P : Program} {W : World}
theorem open_trips_arg {t e : TypeId} {f0 f1 f2 : Field} {v : Value} {d : DataW H} {p : List MemPlace} {r : Reach} {b0 base : Nat} {held : Bool} (ht : P.underlying t = some (.slice e)) (he : P.underlying e = some (.struct #[f0, f1, f2]))
    (ce : P.cellsOf e = 3) (o0 : f0.offset = 0) (o1 : f1.offset = 1) (o2 : f2.offset = 2) (c0 : P.cellsOf f0.type = 1) (c1 : P.cellsOf f1.type = 1) (c2 : P.cellsOf f2.type = 1)
    (o : Value.okWide P W r b0 t v) (h : DataW.Trod enc P W base (fun _ => true) held t v d p) :
    ∃ (A : Option Addr) (n c : Nat), v = .slice A n c ∧ n ≤ c ∧ c ≤ maxLen ∧ ∀ i, i < n → ∃ (b off : Nat) (v0 v1 v2 : Value), A = some ⟨b, off, none⟩ ∧ b < W.heap.size ∧
      W.cell? ⟨b, off + i * 3, none⟩ = some v0 ∧ W.cell? ⟨b, off + i * 3 + 1, none⟩ = some v1 ∧ W.cell? ⟨b, off + i * 3 + 2, none⟩ = some v2 ∧
      (∃ k x, DataW.trod enc P W base (fun _ => true) held k f0.type [v0] = some x) ∧ (∃ k x, DataW.trod enc P W base (fun _ => true) held k f1.type [v1] = some x) ∧ (∃ k x, DataW.trod enc P W base (fun _ => true) held k f2.type [v2] = some x) := by
  obtain ⟨a, n, c, rfl⟩ := okWide_slice ht o
  obtain ⟨fuel, hf⟩ := h
  rcases open_slice ht hf with ⟨hcs, _⟩ | ⟨a', len, cap, m, k, D, Pl, hcs, hb, hl, hm, hmm, _, hx⟩
  · simp [Value.cells] at hcs
    obtain ⟨rfl, rfl, rfl⟩ := hcs
    exact ⟨none, 0, 0, rfl, Nat.le_refl _, by simp [maxLen], fun i h => by omega⟩
  · simp [Value.cells] at hcs
    obtain ⟨rfl, rfl, rfl⟩ := hcs
    simp only [if_true] at hmm
    subst hmm
    refine ⟨some a', n, m, rfl, hl, hm, fun i hi => ?_⟩
    obtain ⟨cs', h1, h2⟩ := hx i (by omega)
    rw [ce] at h1
    obtain ⟨_, hlen, hcell⟩ := World.cells?_some h1
    obtain ⟨xs, q, hq, hxy, _, hxl, hff⟩ := DataW.trod_struct he h2
    match xs, hxl, cs', hlen with
    | [y0, y1, y2], _, [v0, v1, v2], _ =>
      have g0 := hff 0 f0 rfl
      have g1 := hff 1 f1 rfl
      have g2 := hff 2 f2 rfl
      simp [o0, o1, o2, c0, c1, c2] at g0 g1 g2
      have e0 := hcell 0 (by omega)
      have e1 := hcell 1 (by omega)
      have e2 := hcell 2 (by omega)
      simp only [List.getElem?_cons_zero, List.getElem?_cons_succ] at e0 e1 e2
      have hbl := World.block_lt_of_cell? _ _ e0
      rw [block_of_add, block_of_add] at hbl
      have hs0 : (a'.add (0 * 3)).spot = none := by
        obtain ⟨cs0, h10, _⟩ := hx 0 (by omega)
        rw [ce] at h10
        obtain ⟨_, hlen0, hcell0⟩ := World.cells?_some h10
        have := World.cell?_spot (hcell0 0 (by omega) |>.trans (List.getElem?_eq_getElem (by omega)))
        simpa [Addr.add] using this
      obtain ⟨b, off, sp⟩ := a'
      have hsp : sp = none := by simpa [Addr.add] using hs0
      subst hsp
      simp only [add_plain3] at e0 e1 e2
      exact ⟨b, off, v0, v1, v2, rfl, hbl, by simpa using e0, e1, e2, ⟨_, _, g0⟩, ⟨_, _, g1⟩, ⟨_, _, g2⟩⟩
end
end Go.Proofs.Ytnanacokclcbfaa.K
