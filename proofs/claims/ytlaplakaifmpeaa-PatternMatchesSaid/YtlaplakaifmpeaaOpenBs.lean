/- A slice of bindings as a parameter, opened. -/
import Derived.Test.YtlaplakaifmpeaaOpenTm
import Derived.Test.YtlaplakaifmpeaaPatRefC
namespace Go.Proofs.Ytlaplakaifmpeaa.Pt
open Go.RowKit K Go.Shelf Go.ChangeShapes Go.WideShapes Go.Deep
set_option linter.unusedVariables false
set_option linter.unusedSimpArgs false

section
variable {H : Type} {enc : TypeId × Value → H} {P : Program} {W : World}
theorem open_binds_arg {b e st sb : TypeId} {e0 e1 f0 f1 f2 f3 : Field} {base b0 : Nat} {held : Bool} {r : Reach} {v : Value} {d : DataW H} {p : List MemPlace} (hb : P.underlying b = some (.struct #[e0, e1])) (hsb : P.underlying sb = some (.slice b)) (cb : P.cellsOf b = 5)
    (eo0 : e0.offset = 0) (eo1 : e1.offset = 1) (ec0 : P.cellsOf e0.type = 1) (ei0 : P.underlying e0.type = some (.int .i64)) (ei1 : e1.type = e)
    (he : P.underlying e = some (.struct #[f0, f1, f2, f3])) (hs : P.underlying st = some (.slice e)) (ce : P.cellsOf e = 4)
    (o0 : f0.offset = 0) (o1 : f1.offset = 1) (o2 : f2.offset = 2) (o3 : f3.offset = 3) (c0 : P.cellsOf f0.type = 1) (c1 : P.cellsOf f1.type = 1) (c2 : P.cellsOf f2.type = 1) (c3 : P.cellsOf f3.type = 1)
    (i0 : P.underlying f0.type = some (.int .i64)) (i1 : P.underlying f1.type = some (.int .i64)) (i2 : P.underlying f2.type = some .string) (i3 : f3.type = st)
    (o : Value.okWide P W r b0 sb v) (h : DataW.Trod enc P W base (fun _ => true) held sb v d p) : ∃ (A : Option Addr) (c : Nat) (l : List Bnd), v = .slice A l.length c ∧ BcAt W A c l := by
  obtain ⟨a, n, c, rfl⟩ := okWide_slice hsb o
  obtain ⟨fuel, hf⟩ := h
  rcases DataW.trod_slice hsb hf with ⟨hcs, _⟩ | ⟨a, len, cap, elems, rest, q, hq, hcs, _, hbb, hlc, hcm, hel, helem, _, _⟩
  · simp [Value.cells] at hcs
    obtain ⟨rfl, rfl, rfl⟩ := hcs
    exact ⟨none, 0, [], rfl, fun i p h => by simp at h, by simp, by simp [maxLen]⟩
  · simp [Value.cells] at hcs
    obtain ⟨rfl, rfl, rfl⟩ := hcs
    have op : ∀ (fuel : Nat) (cs : List Value) (x : DataW H × List MemPlace), DataW.trod enc P W base (fun _ => true) held fuel b cs = some x → ∃ (m : Int) (t : Tm) (x0 x1 x2 x3 : Value), cs = [.int .i64 m, x0, x1, x2, x3] ∧ TAt W (· < W.heap.size) t (.agg #[x0, x1, x2, x3]) := by
      intro fuel cs x h
      obtain ⟨xs, m, rfl, _, hl, hlen, hf⟩ := DataW.trod_struct hb h
      rw [cb] at hl
      match xs, hlen, cs, hl with
      | [y0, y1], _, [v0, v1, v2, v3, v4], _ =>
        have g0 := hf 0 e0 rfl
        have g1 := hf 1 e1 rfl
        simp [eo0, eo1, ec0, ei1, ce] at g0 g1
        obtain ⟨k, hk, _, wk⟩ := DataW.trod_int ei0 g0
        simp only [List.cons.injEq, and_true] at hk
        subst hk
        obtain ⟨t, x0, x1, x2, x3, hcs, ht⟩ := open_tm he hs ce o0 o1 o2 o3 c0 c1 c2 c3 i0 i1 i2 i3 _ _ _ g1
        exact ⟨k, t, x0, x1, x2, x3, by rw [hcs], ht⟩
    have hspot : ∀ i, i < n → a.spot = none := fun i hi => by
      have h1 := helem 0 (by omega)
      rw [List.getElem?_eq_getElem (by omega)] at h1
      obtain ⟨cs', h2, h3⟩ := Option.bind_eq_some_iff.1 h1
      obtain ⟨m, u, z0, z1, z2, z3, rfl, hu⟩ := op _ cs' _ h3
      obtain ⟨_, _, hcell⟩ := World.cells?_some h2
      rw [cb] at hcell
      have := World.cell?_spot (hcell 0 (by omega))
      simpa [Addr.add] using this
    have hall : ∀ i, i < n → ∃ (q : Bnd) (v : Value), BSlot W (· < W.heap.size) (some a) i q.1 v ∧ TAt W (· < W.heap.size) q.2 v := fun i hi => by
      have h1 := helem i hi
      rw [List.getElem?_eq_getElem (by omega)] at h1
      obtain ⟨cs', h2, h3⟩ := Option.bind_eq_some_iff.1 h1
      obtain ⟨m, u, z0, z1, z2, z3, rfl, hu⟩ := op _ cs' _ h3
      obtain ⟨_, _, hcell⟩ := World.cells?_some h2
      rw [cb] at hcell
      have d0 := hcell 0 (by omega)
      have d1 := hcell 1 (by omega)
      have d2 := hcell 2 (by omega)
      have d3 := hcell 3 (by omega)
      have d4 := hcell 4 (by omega)
      simp only [cb, add_of_add] at d0 d1 d2 d3 d4
      have hlt := World.block_lt_of_cell? _ _ d0
      rw [block_of_add] at hlt
      obtain ⟨b, off, sp⟩ := a
      obtain rfl : sp = none := hspot i hi
      rw [add_plain'] at d0 d1 d2 d3 d4
      exact ⟨(m, u), _, ⟨b, off, _, _, _, _, rfl, hlt, rfl, d0, d1, d2, d3, d4⟩, hu⟩
    obtain ⟨U, hU⟩ := choose_lt (p := fun i (q : Bnd) => ∃ v, BSlot W (· < W.heap.size) (some a) i q.1 v ∧ TAt W (· < W.heap.size) q.2 v) hall
    refine ⟨some a, c, (List.range n).map U, by simp, fun i u hu => ?_, by simpa using hlc, hcm⟩
    rw [List.getElem?_map] at hu
    have hi : i < n := by
      rcases Nat.lt_or_ge i n with h | h
      · exact h
      · rw [List.getElem?_eq_none (by simpa using h)] at hu; cases hu
    rw [List.getElem?_range hi] at hu
    simp at hu
    subst hu
    exact hU i hi
end
theorem open_bs {H : Type} {enc : TypeId × Value → H} {W : World} {base b0 : Nat} {held : Bool} {r : Reach} {v : Value} {d : DataW H} {p : List MemPlace} (o : Value.okWide Try.prog W r b0 25 v) (h : DataW.Trod enc Try.prog W base (fun _ => true) held 25 v d p) :
    ∃ (A : Option Addr) (c : Nat) (l : List Bnd), v = .slice A l.length c ∧ BcAt W A c l :=
  open_binds_arg (st := 22) Try.underlying35 Try.underlying25 (by kernel_rfl) rfl rfl (by kernel_rfl) (by kernel_rfl) rfl Try.underlying24 Try.underlying22 (by kernel_rfl) rfl rfl rfl rfl (by kernel_rfl) (by kernel_rfl) (by kernel_rfl) (by kernel_rfl) (by kernel_rfl) (by kernel_rfl) (by kernel_rfl) rfl o h
end Go.Proofs.Ytlaplakaifmpeaa.Pt
