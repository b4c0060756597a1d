/- A term as a parameter, opened. -/
import Derived.Test.YtfcialleekfjmaaLawKit
import Derived.Test.YtfcialleekfjmaaTm
namespace Go.Proofs.Ytfcialleekfjmaa.K
open Go.RowKit Go.ChangeShapes Go.WideShapes
set_option linter.unusedVariables false
set_option linter.unusedSimpArgs false

section
variable {H : Type} {enc : TypeId × Value → H} {P : Program} {W : World}
theorem open_term_arg {e st : TypeId} {f0 f1 f2 f3 : Field} {base b0 : Nat} {held : Bool} {r : Reach} {v : Value} {d : DataW H} {p : List MemPlace} (he : P.underlying e = some (.struct #[f0, f1, f2, f3])) (hs : P.underlying st = some (.slice e)) (ce : P.cellsOf e = 4)
    (o0 : f0.offset = 0) (o1 : f1.offset = 1) (o2 : f2.offset = 2) (o3 : f3.offset = 3) (c0 : P.cellsOf f0.type = 1) (c1 : P.cellsOf f1.type = 1) (c2 : P.cellsOf f2.type = 1) (c3 : P.cellsOf f3.type = 1)
    (i0 : P.underlying f0.type = some (.int .i64)) (i1 : P.underlying f1.type = some (.int .i64)) (i2 : P.underlying f2.type = some .string) (i3 : f3.type = st)
    (o : Value.okWide P W r b0 e v) (h : DataW.Trod enc P W base (fun _ => true) held e v d p) : ∃ t, TA W t v := by
  obtain ⟨cs, rfl, _⟩ := okWide_struct he o
  obtain ⟨fuel, hf⟩ := h
  obtain ⟨t, x0, x1, x2, x3, hcs, ht⟩ := open_tm he hs ce o0 o1 o2 o3 c0 c1 c2 c3 i0 i1 i2 i3 fuel _ _ hf
  have : cs = #[x0, x1, x2, x3] := by
    have h2 : cs.toList = [x0, x1, x2, x3] := hcs
    rw [← Array.toArray_toList (xs := cs), h2]
  rw [this]
  exact ⟨t, ht⟩
end
set_option maxRecDepth 100000 in
theorem open_t {H : Type} {enc : TypeId × Value → H} {W : World} {base b0 : Nat} {held : Bool} {r : Reach} {v : Value} {d : DataW H} {p : List MemPlace} (o : Value.okWide Try.prog W r b0 24 v) (h : DataW.Trod enc Try.prog W base (fun _ => true) held 24 v d p) : ∃ t, TA W t v :=
  open_term_arg (st := 22) Try.underlying24 Try.underlying22 (by kernel_rfl) rfl rfl rfl rfl (by kernel_rfl) (by kernel_rfl) (by kernel_rfl) (by kernel_rfl) (by kernel_rfl) (by kernel_rfl) (by kernel_rfl) rfl o h
end Go.Proofs.Ytfcialleekfjmaa.K
