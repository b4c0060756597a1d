/- An argument opened: a slice of structs of two ints. No program in sight. -/
import Derived.Test.YtnedjmjcbmoknaaOpen
import Derived.Deep.SlicePairs
namespace Go.Proofs.Ytnedjmjcbmoknaa.K
open Go.RowKit Go.ChangeShapes Go.WideShapes Go.Deep
set_option linter.unusedVariables false
set_option linter.unusedSimpArgs false

/-- A slice whose elements are two ints each, below block B. -/
def Pairs (w : World) (B : Nat) (A : Option Addr) (xs : List (Int × Int)) : Prop :=
  ∀ i p, xs[i]? = some p → ∃ b o, A = some ⟨b, o, none⟩ ∧ b < B ∧ w.cell? ⟨b, o + i * 2, none⟩ = some (.int .i64 p.1) ∧ w.cell? ⟨b, o + i * 2 + 1, none⟩ = some (.int .i64 p.2) ∧ (Lit.int .i64 p.1).wf = true ∧ (Lit.int .i64 p.2).wf = true
theorem add_plain' (b o n : Nat) : (⟨b, o, none⟩ : Addr).add n = ⟨b, o + n, none⟩ := by
  unfold Addr.add
  split
  · rename_i h; simp [h]
  · simp
section
variable {H : Type} {enc : TypeId × Value → H} {P : Program} {W : World}
theorem open_pairs_arg {t e : TypeId} {f0 f1 : Field} {v : Value} {d : DataW H} {p : List MemPlace} {r : Reach} {b0 base : Nat} {held : Bool} (ht : P.underlying t = some (.slice e)) (he : P.underlying e = some (.struct #[f0, f1]))
    (ce : P.cellsOf e = 2) (o0 : f0.offset = 0) (o1 : f1.offset = 1) (c0 : P.cellsOf f0.type = 1) (c1 : P.cellsOf f1.type = 1) (i0 : P.underlying f0.type = some (.int .i64)) (i1 : P.underlying f1.type = some (.int .i64))
    (o : Value.okWide P W r b0 t v) (h : DataW.Trod enc P W base (fun _ => true) held t v d p) :
    ∃ (A : Option Addr) (c : Nat) (xs : List (Int × Int)), v = .slice A xs.length c ∧ Pairs W W.heap.size A xs ∧ xs.length ≤ c ∧ c ≤ maxLen := by
  obtain ⟨a, n, c, rfl⟩ := okWide_slice ht o
  obtain ⟨fuel, hf⟩ := h
  rcases open_slice_pairs ht he ce o0 o1 c0 c1 hf with ⟨hcs, _⟩ | ⟨a', len, cap, m, k, V0, V1, D0, D1, P0, P1, hcs, _, hl, hm, hmm, _, hall⟩
  · simp [Value.cells] at hcs
    obtain ⟨rfl, rfl, rfl⟩ := hcs
    exact ⟨none, 0, [], rfl, fun i p h => by simp at h, by simp, by simp [maxLen]⟩
  · simp [Value.cells] at hcs
    obtain ⟨rfl, rfl, rfl⟩ := hcs
    simp only [if_true] at hmm
    subst hmm
    refine ⟨some a', m, (List.range n).map (fun i => (intOf (V0 i), intOf (V1 i))), by simp, fun i q hq => ?_, by simpa using hl, hm⟩
    rw [List.getElem?_map] at hq
    have hi : i < n := by
      rcases Nat.lt_or_ge i n with h | h
      · exact h
      · rw [List.getElem?_eq_none (by simpa using h)] at hq; cases hq
    rw [List.getElem?_range hi] at hq
    simp at hq
    subst hq
    obtain ⟨h1, h2, t1, t2⟩ := hall i (by omega)
    obtain ⟨x, hx1, _, hx2⟩ := DataW.trod_int i0 t1
    obtain ⟨y, hy1, _, hy2⟩ := DataW.trod_int i1 t2
    simp only [List.cons.injEq, and_true] at hx1 hy1
    have hb := World.block_lt_of_cell? _ _ h1
    rw [block_of_add] at hb
    rw [hx1] at h1
    rw [hy1] at h2
    rw [hx1, hy1]
    have hs0 := World.cell?_spot (hall 0 (by omega)).1
    obtain ⟨b, off, sp⟩ := a'
    have hsp : sp = none := by simpa [Addr.add] using hs0
    subst hsp
    rw [add_plain'] at h1 h2
    exact ⟨b, off, rfl, hb, h1, by rw [Nat.add_assoc]; exact h2, hx2, hy2⟩
end
end Go.Proofs.Ytnedjmjcbmoknaa.K
