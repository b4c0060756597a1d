/- A row of terms that is made and then filled from its beginning on. Plain facts. -/
import Derived.Test.YtlaplakaifmpeaaTmCopy
import Derived.Test.YtlaplakaifmpeaaPartsA
import Derived.Laws.OwnMore
namespace Go.Proofs.Ytlaplakaifmpeaa.K
open Go.RowKit
set_option linter.unusedVariables false
set_option linter.unusedSimpArgs false

/-- The row in block g has room for n terms; the first ones are us. -/
def FRow (w : World) (B : Nat) (G : Nat → Prop) (g n : Nat) (us : List Tm) : Prop :=
  ∃ xs, w.ownsRow B 24 4 (.slice (some ⟨g, 0, none⟩) n n) n xs ∧ us.length ≤ n ∧ (∀ b, G b → b < w.heap.size ∧ b ≠ g) ∧
    ∀ j u, us[j]? = some u → ∃ x0 x1 x2 x3, TAt w G u (.agg #[x0, x1, x2, x3]) ∧ xs[j * 4]? = some x0 ∧ xs[j * 4 + 1]? = some x1 ∧ xs[j * 4 + 2]? = some x2 ∧ xs[j * 4 + 3]? = some x3
theorem make_row (w : World) (B n : Nat) (hB : B ≤ w.heap.size) (hn : n ≤ 1048576) :
    ∃ w', (Instr.makeSlice 22 (.int .i64 (n : Int)) (.int .i64 (n : Int))).run Try.prog w = .ok (.slice (some ⟨w.heap.size, 0, none⟩) n n) w' ∧ FRow w' B (fun _ => False) w.heap.size n [] ∧ Below w.heap.size w w' ∧ w'.heap.size = w.heap.size + 1 := by
  obtain ⟨i0, hi, hz0, hz1, hz2⟩ := info_parts infoT
  obtain ⟨w', h1, h2, h3⟩ := run_make_full (P := Try.prog) w B 22 24 i0 _ 4 Try.underlying22 hi hz0 hz1 .i64 .i64 n (by rw [hz2]; omega) (by unfold maxLen; omega) hB
  have hr := run_make (P := Try.prog) w 22 24 i0 _ Try.underlying22 hi hz0 .i64 .i64 n n (by omega) (Int.le_refl _) (by rw [hz2]; omega) (by omega)
  rw [h1] at hr
  injection hr with _ hw
  refine ⟨w', h1, ⟨_, h2, by simp, fun b h => h.elim, fun j u hu => by simp at hu⟩, ?_, ?_⟩
  · rw [hw]; exact (Below.refl _ _).alloc (Nat.le_refl _) _
  · rw [hw, World.size_alloc]
section
variable {w w' : World} {B g n : Nat} {G : Nat → Prop} {us : List Tm} {u : Tm}
theorem FRow.lt (h : FRow w B G g n us) : B ≤ g ∧ g < w.heap.size := by
  obtain ⟨xs, h, _⟩ := h
  exact h.lt g rfl
/-- The next place is there, and may be written. -/
theorem FRow.spot (h : FRow w B G g n us) {i : Nat} (hi : i < n) : (∃ x, w.cell? ⟨g, i * 4, none⟩ = some x) ∧ (∃ x, w.cell? ⟨g, i * 4 + 1, none⟩ = some x) ∧ (∃ x, w.cell? ⟨g, i * 4 + 2, none⟩ = some x) ∧ (∃ x, w.cell? ⟨g, i * 4 + 3, none⟩ = some x) ∧
    w.frozen? ⟨g, i * 4, none⟩ = false ∧ w.frozen? ⟨g, i * 4 + 1, none⟩ = false ∧ w.frozen? ⟨g, i * 4 + 2, none⟩ = false ∧ w.frozen? ⟨g, i * 4 + 3, none⟩ = false := by
  obtain ⟨xs, h, _⟩ := h
  have hc := h.cells (g := g) rfl
  have hl := h.1
  have hcell : ∀ q, q < 4 → ∃ x, w.cell? ⟨g, i * 4 + q, none⟩ = some x := fun q hq => by
    have hlt : i * 4 + q < xs.length := by omega
    have := hc (i * 4 + q) xs[i * 4 + q] (List.getElem?_eq_getElem hlt)
    rw [add_plain'] at this
    exact ⟨_, by simpa using this⟩
  exact ⟨hcell 0 (by omega), hcell 1 (by omega), hcell 2 (by omega), hcell 3 (by omega), h.frozenAt _, h.frozenAt _, h.frozenAt _, h.frozenAt _⟩
theorem FRow.put {y0 y1 y2 y3 : Value} (h : FRow w B G g n us) (hi : us.length < n) (ht : TAt w G u (.agg #[y0, y1, y2, y3])) : FRow (put4at w g (us.length * 4) y0 y1 y2 y3) B G g n (us ++ [u]) := by
  obtain ⟨xs, h, hl, hG, hu⟩ := h
  have h4 := (((((h.stored (us.length * 4) y0).1.stored (us.length * 4 + 1) y1).1.stored (us.length * 4 + 2) y2).1).stored (us.length * 4 + 3) y3).1
  have hlen := h.1
  have hz : (put4at w g (us.length * 4) y0 y1 y2 y3).heap.size = w.heap.size := by simp [put4at, World.setCell]
  have hk : ∀ p : Addr, G p.block → (put4at w g (us.length * 4) y0 y1 y2 y3).cell? p = w.cell? p := fun p hp => by
    have hn := (hG _ hp).2
    unfold put4at
    rw [cell_far _ _ _ _ hn, cell_far _ _ _ _ hn, cell_far _ _ _ _ hn, cell_far _ _ _ _ hn]
  refine ⟨_, h4, by simp; omega, fun b hb => by rw [hz]; exact hG b hb, fun j u' hj => ?_⟩
  rcases Nat.lt_or_ge j us.length with hlt | hge
  · rw [List.getElem?_append_left hlt] at hj
    obtain ⟨x0, x1, x2, x3, h0, e0, e1, e2, e3⟩ := hu j u' hj
    refine ⟨x0, x1, x2, x3, h0.keep hk, ?_, ?_, ?_, ?_⟩ <;>
      (simp only [List.getElem?_set]; repeat rw [if_neg (by omega)]) <;> assumption
  · have hj' : j = us.length := by
      have := (List.getElem?_eq_some_iff.1 hj).1
      simp at this
      omega
    subst hj'
    rw [List.getElem?_append_right (Nat.le_refl _), Nat.sub_self] at hj
    simp at hj
    subst hj
    refine ⟨y0, y1, y2, y3, ht.keep hk, ?_, ?_, ?_, ?_⟩
    · rw [List.getElem?_set, if_neg (by omega), List.getElem?_set, if_neg (by omega), List.getElem?_set, if_neg (by omega), List.getElem?_set, if_pos rfl, if_pos (by omega)]
    · rw [List.getElem?_set, if_neg (by omega), List.getElem?_set, if_neg (by omega), List.getElem?_set, if_pos rfl, if_pos (by simp; omega)]
    · rw [List.getElem?_set, if_neg (by omega), List.getElem?_set, if_pos rfl, if_pos (by simp; omega)]
    · rw [List.getElem?_set, if_pos rfl, if_pos (by simp; omega)]
/-- Blocks other than the row's and its terms' turn. -/
theorem FRow.keep {F : Nat → Prop} (h : FRow w B G g n us) (hk : Keep F w w') (hg : ¬ F g) (hG : ∀ b, G b → ¬ F b) : FRow w' B G g n us := by
  obtain ⟨xs, h, hl, hG', hu⟩ := h
  refine ⟨xs, ownsRow_keep h hk (fun r hr => by
    have : r = g := by (injection hr with hr; exact hr.symm)
    rw [this]; exact hg), hl, fun b hb => ⟨Nat.lt_of_lt_of_le (hG' b hb).1 hk.size, (hG' b hb).2⟩, fun j u hj => ?_⟩
  obtain ⟨x0, x1, x2, x3, h0, e⟩ := hu j u hj
  exact ⟨x0, x1, x2, x3, h0.keep fun p hp => hk.cell (hG' _ hp).1 (hG _ hp), e⟩
theorem FRow.later (h : FRow w B G g n us) (hb : Below w.heap.size w w') : FRow w' B G g n us :=
  h.keep (F := fun _ => False) (Keep.new hb) (fun h => h) (fun _ _ h => h)
theorem FRow.more {G' : Nat → Prop} (h : FRow w B G g n us) (hG : ∀ b, G b → G' b) (hG' : ∀ b, G' b → b < w.heap.size ∧ b ≠ g) : FRow w B G' g n us := by
  obtain ⟨xs, h, hl, _, hu⟩ := h
  exact ⟨xs, h, hl, hG', fun j u hj => by
    obtain ⟨x0, x1, x2, x3, h0, e⟩ := hu j u hj
    exact ⟨x0, x1, x2, x3, h0.mono hG, e⟩⟩
theorem FRow.done (h : FRow w B G g n us) : TsAt w (fun b => G b ∨ b = g) (some ⟨g, 0, none⟩) us := by
  obtain ⟨xs, h, hl, hG, hu⟩ := h
  intro j u hj
  obtain ⟨x0, x1, x2, x3, h0, e0, e1, e2, e3⟩ := hu j u hj
  have hc := h.cells (g := g) rfl
  have c0 := hc _ _ e0
  have c1 := hc _ _ e1
  have c2 := hc _ _ e2
  have c3 := hc _ _ e3
  rw [add_plain'] at c0 c1 c2 c3
  exact ⟨_, ⟨g, 0, x0, x1, x2, x3, rfl, .inr rfl, rfl, by simpa using c0, by simpa [Nat.add_assoc] using c1, by simpa [Nat.add_assoc] using c2, by simpa [Nat.add_assoc] using c3⟩, h0.mono fun b hb => .inl hb⟩
end
end Go.Proofs.Ytlaplakaifmpeaa.K
