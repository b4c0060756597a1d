/- A slice of terms as a parameter, opened. -/
import Derived.Test.YtiknelmaepkdkaaOpenTm
namespace Go.Proofs.Ytiknelmaepkdkaa.K
open Go.RowKit Go.ChangeShapes Go.WideShapes Go.Deep
set_option linter.unusedVariables false
set_option linter.unusedSimpArgs false

section
variable {H : Type} {enc : TypeId × Value → H} {P : Program} {W : World}
theorem open_terms_arg {e st : TypeId} {f0 f1 f2 f3 : Field} {base b0 : Nat} {held : Bool} {r : Reach} {v : Value} {d : DataW H} {p : List MemPlace} (he : P.underlying e = some (.struct #[f0, f1, f2, f3])) (hs : P.underlying st = some (.slice e)) (ce : P.cellsOf e = 4)
    (o0 : f0.offset = 0) (o1 : f1.offset = 1) (o2 : f2.offset = 2) (o3 : f3.offset = 3) (c0 : P.cellsOf f0.type = 1) (c1 : P.cellsOf f1.type = 1) (c2 : P.cellsOf f2.type = 1) (c3 : P.cellsOf f3.type = 1)
    (i0 : P.underlying f0.type = some (.int .i64)) (i1 : P.underlying f1.type = some (.int .i64)) (i2 : P.underlying f2.type = some .string) (i3 : f3.type = st)
    (o : Value.okWide P W r b0 st v) (h : DataW.Trod enc P W base (fun _ => true) held st v d p) : ∃ (A : Option Addr) (c : Nat) (l : List Tm), v = .slice A l.length c ∧ TsA W A l ∧ l.length ≤ c ∧ c ≤ maxLen ∧ (A = none → c = 0) := by
  obtain ⟨a, n, c, rfl⟩ := okWide_slice hs o
  obtain ⟨fuel, hf⟩ := h
  rcases DataW.trod_slice hs hf with ⟨hcs, _⟩ | ⟨a, len, cap, elems, rest, q, hq, hcs, _, hb, hlc, hcm, hel, helem, _, _⟩
  · simp [Value.cells] at hcs
    obtain ⟨rfl, rfl, rfl⟩ := hcs
    exact ⟨none, 0, [], rfl, TsAt.nil _ _ _, by simp, by simp [maxLen], fun _ => rfl⟩
  · simp [Value.cells] at hcs
    obtain ⟨rfl, rfl, rfl⟩ := hcs
    have op := fun (fuel : Nat) => open_tm (enc := enc) (W := W) (base := base) (held := held) he hs ce o0 o1 o2 o3 c0 c1 c2 c3 i0 i1 i2 i3 fuel
    have hspot : ∀ i, i < n → a.spot = none := fun i hi => by
      have h1 := helem 0 (by omega)
      rw [List.getElem?_eq_getElem (by omega)] at h1
      obtain ⟨cs', h2, h3⟩ := Option.bind_eq_some_iff.1 h1
      obtain ⟨u, z0, z1, z2, z3, rfl, hu⟩ := op _ cs' _ h3
      obtain ⟨_, _, hcell⟩ := World.cells?_some h2
      rw [ce] at hcell
      have := World.cell?_spot (hcell 0 (by omega))
      simpa [Addr.add] using this
    have hall : ∀ i, i < n → ∃ u v, Slot W (· < W.heap.size) (some a) i v ∧ TAt W (· < W.heap.size) u v := fun i hi => by
      have h1 := helem i hi
      rw [List.getElem?_eq_getElem (by omega)] at h1
      obtain ⟨cs', h2, h3⟩ := Option.bind_eq_some_iff.1 h1
      obtain ⟨u, z0, z1, z2, z3, rfl, hu⟩ := op _ cs' _ h3
      obtain ⟨_, _, hcell⟩ := World.cells?_some h2
      rw [ce] at hcell
      have d0 := hcell 0 (by omega)
      have d1 := hcell 1 (by omega)
      have d2 := hcell 2 (by omega)
      have d3 := hcell 3 (by omega)
      simp only [ce, add_of_add] at d0 d1 d2 d3
      have hlt := World.block_lt_of_cell? _ _ d0
      rw [block_of_add] at hlt
      obtain ⟨b, off, sp⟩ := a
      obtain rfl : sp = none := hspot i hi
      rw [add_plain'] at d0 d1 d2 d3
      exact ⟨u, _, ⟨b, off, _, _, _, _, rfl, hlt, rfl, d0, d1, d2, d3⟩, hu⟩
    obtain ⟨U, hU⟩ := choose_lt (p := fun i u => ∃ v, Slot W (· < W.heap.size) (some a) i v ∧ TAt W (· < W.heap.size) u v) hall
    refine ⟨some a, c, (List.range n).map U, by simp, fun i u hu => ?_, by simpa using hlc, hcm, fun h => by cases h⟩
    rw [List.getElem?_map] at hu
    have hi : i < n := by
      rcases Nat.lt_or_ge i n with h | h
      · exact h
      · rw [List.getElem?_eq_none (by simpa using h)] at hu; cases hu
    rw [List.getElem?_range hi] at hu
    simp at hu
    subst hu
    exact hU i hi
end
theorem open_ts {H : Type} {enc : TypeId × Value → H} {W : World} {base b0 : Nat} {held : Bool} {r : Reach} {v : Value} {d : DataW H} {p : List MemPlace} (o : Value.okWide Try.prog W r b0 22 v) (h : DataW.Trod enc Try.prog W base (fun _ => true) held 22 v d p) :
    ∃ (A : Option Addr) (c : Nat) (l : List Tm), v = .slice A l.length c ∧ TsA W A l ∧ l.length ≤ c ∧ c ≤ maxLen ∧ (A = none → c = 0) :=
  open_terms_arg Try.underlying24 Try.underlying22 (by kernel_rfl) rfl rfl rfl rfl (by kernel_rfl) (by kernel_rfl) (by kernel_rfl) (by kernel_rfl) (by kernel_rfl) (by kernel_rfl) (by kernel_rfl) rfl o h
end Go.Proofs.Ytiknelmaepkdkaa.K
