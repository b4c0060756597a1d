/- A term's value tells the term; what keeps its cells keeps it. Plain. -/
import Derived.Test.YtiknelmaepkdkaaTm
import Derived.RangeFuncNested
namespace Go.Proofs.Ytiknelmaepkdkaa.K
open Go.RowKit
set_option linter.unusedVariables false
set_option linter.unusedSimpArgs false
section
variable {w w' : World} {F G : Nat → Prop}
theorem Slot.keepc {A : Option Addr} {i : Nat} {v : Value} (h : Slot w F A i v) (hk : ∀ p x, F p.block → w.cell? p = some x → w'.cell? p = some x) : Slot w' F A i v := by
  obtain ⟨b, o, x0, x1, x2, x3, rfl, hb, rfl, d0, d1, d2, d3⟩ := h
  exact ⟨b, o, x0, x1, x2, x3, rfl, hb, rfl, hk ⟨b, o + i * 4, none⟩ _ hb d0, hk ⟨b, o + i * 4 + 1, none⟩ _ hb d1, hk ⟨b, o + i * 4 + 2, none⟩ _ hb d2, hk ⟨b, o + i * 4 + 3, none⟩ _ hb d3⟩
theorem TAt.keepc {t : Tm} {v : Value} (h : TAt w F t v) (hk : ∀ p x, F p.block → w.cell? p = some x → w'.cell? p = some x) : TAt w' F t v := by
  induction h with
  | mk t A c V ok hs ht ih => exact .mk t A c V ok (fun i u hu => (hs i u hu).keepc hk) (fun i u hu => ih i u hu)
/-- The value tells the term. -/
theorem TAt.uniq : ∀ (t t' : Tm) (v : Value), TAt w F t v → TAt w G t' v → t = t' := by
  refine Tm.ind fun t ih t' v h h' => ?_
  obtain ⟨A, c, rfl, ok, hl⟩ := h.inv
  obtain ⟨A', c', e, ok', hl'⟩ := h'.inv
  obtain ⟨k, n, s, l⟩ := t
  obtain ⟨k', n', s', l'⟩ := t'
  unfold tv at e
  simp only [Value.agg.injEq, Array.mk.injEq, List.cons.injEq, and_true, Value.int.injEq, true_and, Value.string.injEq, Value.slice.injEq, Tm.k_mk, Tm.n_mk, Tm.s_mk, Tm.l_mk] at e
  obtain ⟨rfl, rfl, rfl, rfl, e4, rfl⟩ := e
  simp only [Tm.l_mk] at hl hl' ih
  have hll : l = l' := by
    refine List.ext_getElem e4 fun i h1 h2 => ?_
    obtain ⟨v1, s1, t1⟩ := hl i l[i] (List.getElem?_eq_getElem h1)
    obtain ⟨v2, s2, t2⟩ := hl' i l'[i] (List.getElem?_eq_getElem h2)
    obtain ⟨b, o, x0, x1, x2, x3, hA, _, rfl, d0, d1, d2, d3⟩ := s1
    obtain ⟨b', o', y0, y1, y2, y3, hA', _, rfl, f0, f1, f2, f3⟩ := s2
    rw [hA] at hA'
    injection hA' with hA'
    injection hA' with g1 g2
    subst g1 g2
    rw [d0] at f0; rw [d1] at f1; rw [d2] at f2; rw [d3] at f3
    injection f0 with f0; injection f1 with f1; injection f2 with f2; injection f3 with f3
    subst f0 f1 f2 f3
    exact ih _ (List.getElem_mem h1) _ _ t1 t2
  rw [hll]
end
/-- Blocks that are no cells turn: the term stays. -/
theorem TAt.owned {w w' : World} {F : Nat → Prop} {t : Tm} {v : Value} (h : TAt w F t v) {row : Option Nat} (hg : w.grownBy w' row) (hr : ∀ r, row = some r → ∃ o : Obj, w.heap[r]? = some o ∧ o.isCells = false) : TAt w' F t v :=
  h.keepc fun p x hp hc => by
    have hlt := World.block_lt_of_cell? _ _ hc
    rw [← hc]
    refine World.cell?_of_block (hg.block p.block hlt fun e => ?_)
    obtain ⟨o, ho, hn⟩ := hr _ e.symm
    unfold World.cell? at hc
    rw [ho] at hc
    cases o <;> simp_all [Obj.isCells]
end Go.Proofs.Ytiknelmaepkdkaa.K
