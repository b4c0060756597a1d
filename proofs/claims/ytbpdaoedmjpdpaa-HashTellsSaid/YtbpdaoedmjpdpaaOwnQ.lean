/- A row of the call's own, of which what lies behind its end is known too. No program in sight. -/
import Derived.Test.YtbpdaoedmjpdpaaRows2
namespace Go.Proofs.Ytbpdaoedmjpdpaa.K
open Go.RowKit
set_option linter.unusedVariables false
set_option linter.unusedSimpArgs false

/-- All cells of the block in which the slice lies are so. -/
def RowQ (Q : Value → Prop) (w : World) (v : Value) : Prop := ∀ g, v.ownBlock = some g → ∀ cur e r, w.heap[g]? = some (.cells cur e r) → ∀ u ∈ cur.toList, Q u
section
variable {Q : Value → Prop} {w w' : World} {v : Value}
theorem RowQ.none_ (w : World) (n c : Nat) : RowQ Q w (.slice none n c) := fun g h => by cases h
theorem RowQ.kept (h : RowQ Q w v) (hk : ∀ g, v.ownBlock = some g → w'.heap[g]? = w.heap[g]?) : RowQ Q w' v := fun g hg cur e r hc => h g hg cur e r ((hk g hg).symm.trans hc)
theorem RowQ.below {base n : Nat} {e : TypeId} {size : Nat} {xs : List Value} (h : RowQ Q w v) (ho : w.ownsRow base e size v n xs) (hb : Below w.heap.size w w') : RowQ Q w' v := h.kept fun g hg => hb.block g (ho.lt g hg).2
theorem RowQ.alloc {base n : Nat} {e : TypeId} {size : Nat} {xs : List Value} (h : RowQ Q w v) (ho : w.ownsRow base e size v n xs) (o : Obj) : RowQ Q (w.alloc o) v := h.kept fun g hg => Below.heap_alloc w o g (ho.lt g hg).2
end
theorem zeroCells_mem {z : Value} {n : Nat} (hz : z.cells.size = 1) {Q : Value → Prop} (hq : ∀ u ∈ z.cells.toList, Q u) : ∀ u ∈ (Builtin.zeroCells z.cells n).toList, Q u := by
  intro u hu
  unfold Builtin.zeroCells at hu
  simp only [Array.toList_map, List.mem_map] at hu
  obtain ⟨i, _, rfl⟩ := hu
  have hi : i % z.cells.size < z.cells.size := Nat.mod_lt _ (by omega)
  rw [getElem!_pos z.cells _ hi]
  exact hq _ (Array.getElem_mem_toList hi)
section
variable {P : Program} (w : World)
theorem append_q (Q : Value → Prop) (base : Nat) (t ty e : TypeId) (i : TypeInfo) (z : Value) (ht : P.underlying t = some (.slice e)) (hi : P.info? e = some i) (hz : i.zero = some z)
    (hsize : i.size = 1) (hby : i.bytes ≤ 1024) (hzs : z.cells.size = 1) (hqz : ∀ u ∈ z.cells.toList, Q u)
    (v : Value) (n : Nat) (xs : List Value) (hown : w.ownsRow base e 1 v n xs) (hq : RowQ Q w v)
    (a : Addr) (m c : Nat) (news : List Value) (hl : news.length = m) (hnews : ∀ j u, news[j]? = some u → w.cell? (a.add j) = some u) (h1 : ∀ u ∈ news, u.oneCell' = true) (hqn : ∀ u ∈ news, Q u)
    (h63 : n + m ≤ 1099511627776) (hbytes : (n + m) * i.bytes ≤ 140737488355328) (v' : Value) (w' : World) (hrun : (Builtin.append_ #[t, t] ty #[v, .slice (some a) m c]).run P w = .ok v' w') : RowQ Q w' v' := by
  have hl' : news.length = m * i.size := by rw [hsize, hl, Nat.mul_one]
  have hxl : xs.length = n := by simpa using hown.1
  have hzq : ∀ k, ∀ u ∈ (Builtin.zeroCells z.cells k).toList, Q u := fun k => zeroCells_mem hzs hqz
  rcases hown.2 with ⟨rfl, rfl⟩ | ⟨g, cap, cur, rfl, hbg, hg, hnc, hcm, hcs, htake⟩
  · by_cases hm : m = 0
    · subst hm
      have hn : news = [] := List.eq_nil_of_length_eq_zero hl
      subst hn
      have hr : (Builtin.append_ #[t, t] ty #[.slice none 0 0, .slice (some a) 0 c]).run P w = .ok (.slice none 0 0) w := by
        simp [Builtin.append_, run_underlying ht, sizeOf, typeInfo, hi, Builtin.lenOf, Builtin.firstCells, loadCells, loadCellsFrom]
      rw [hr] at hrun
      injection hrun with e1 e2
      subst e1 e2
      exact RowQ.none_ _ _ _
    · have hr := run_append_nil (P := P) w t ty e i z ht hi hz a m c news hl' hnews (by omega) (by omega) (by have hb := hbytes; simp only [Nat.zero_add] at hb; omega)
      rw [hr] at hrun
      injection hrun with e1 e2
      subst e1 e2
      intro g hg cur e' r hc u hu
      have hge : w.heap.size = g := by simpa [Value.ownBlock] using hg
      subst hge
      rw [show (w.drew.alloc (.cells (news.toArray ++ Builtin.zeroCells z.cells (grownCap w m 0 e - m)) e)).heap[w.heap.size]? = some _ from heap_alloc_new w.drew _] at hc
      injection hc with hc
      injection hc with hc1 hc2 hc3
      subst hc1
      rw [Array.toList_append] at hu
      rcases List.mem_append.1 hu with h | h
      · exact hqn u (by simpa using h)
      · exact hzq _ u h
  · have hq' := hq g rfl cur e (0, 0) hg
    by_cases hroom : n + m ≤ cap
    · have hfit : n * i.size + news.length ≤ cur.size := by rw [hl', hcs, hsize]; omega
      have hr := run_append_room (P := P) w t ty e i ht hi g n cap cur hg a m c news hl' hnews h1 hroom hfit
      rw [hr] at hrun
      injection hrun with e1 e2
      subst e1 e2
      intro g' hg' cur' e' r hc u hu
      have hge : g = g' := by simpa [Value.ownBlock] using hg'
      subst hge
      rw [setRow_heap w g cur _ e _ hg] at hc
      injection hc with hc
      injection hc with hc1 hc2 hc3
      subst hc1
      simp only [List.toList_toArray] at hu
      simp only [List.mem_append] at hu
      rcases hu with (h | h) | h
      · exact hq' u (List.mem_of_mem_take h)
      · exact hqn u h
      · exact hq' u (List.mem_of_mem_drop h)
    · have holds : ∀ j u, xs[j]? = some u → w.cell? ((⟨g, 0, none⟩ : Addr).add j) = some u := hown.cells (g := g) rfl
      have hr := run_append_grow (P := P) w t ty e i z ht hi hz ⟨g, 0, none⟩ n cap xs (by rw [hsize]; omega) holds a m c news hl' hnews (by omega) (by omega) (growslice_fits (by omega) hbytes)
      rw [hr] at hrun
      injection hrun with e1 e2
      subst e1 e2
      intro g' hg' cur' e' r hc u hu
      have hge : w.heap.size = g' := by simpa [Value.ownBlock] using hg'
      subst hge
      rw [show (w.drew.alloc (.cells (xs.toArray ++ news.toArray ++ Builtin.zeroCells z.cells (grownCap w (n + m) cap e - (n + m))) e)).heap[w.heap.size]? = some _ from heap_alloc_new w.drew _] at hc
      injection hc with hc
      injection hc with hc1 hc2 hc3
      subst hc1
      simp only [Array.toList_append, List.mem_append] at hu
      rcases hu with (h | h) | h
      · rw [← htake] at h
        exact hq' u (List.mem_of_mem_take (by simpa using h))
      · exact hqn u (by simpa using h)
      · exact hzq _ u h
end
end Go.Proofs.Ytbpdaoedmjpdpaa.K
