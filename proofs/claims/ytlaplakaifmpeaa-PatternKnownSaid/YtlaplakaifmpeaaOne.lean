/- 'x := f(..)': a term told, stored in a variable of its own, in whatever order. Plain facts. -/
import Derived.Test.YtlaplakaifmpeaaTold2
namespace Go.Proofs.Ytlaplakaifmpeaa.K
open Go.RowKit
set_option linter.unusedVariables false
set_option linter.unusedSimpArgs false

/-- Has it been told (cc), is its variable there (cb), does that hold it (cs)? bx: its variable. -/
structure One (B : Nat) (P : Tm → Prop) (cc cb cs : Bool) (x bx : Value) (w : World) : Prop where
  told : cc = true → ∃ a A c, P a ∧ x = tv a A c ∧ TAt w (fun k => k < w.heap.size ∧ bx ≠ ptr k) a x
  none_ : cb = false → ∀ k, bx ≠ ptr k
  box : cb = true → ∃ g, bx = ptr g ∧ B ≤ g ∧ g < w.heap.size ∧ ∃ y0 y1 y2 y3, Blk w g 24 #[y0, y1, y2, y3] ∧ (cs = true → cc = true ∧ x = .agg #[y0, y1, y2, y3])
  ord : cs = true → cc = true ∧ cb = true
section
variable {B : Nat} {P : Tm → Prop} {a : Tm} {cc cb cs : Bool} {x bx : Value} {w w' : World}
theorem One.start (u x : Value) (h : ∀ k, u ≠ ptr k) : One B P false false false x u w := ⟨nofun, fun _ => h, nofun, nofun⟩
theorem One.later (h : One B P cc cb cs x bx w) (hb : Below w.heap.size w w') : One B P cc cb cs x bx w' :=
  ⟨fun hc => by
    obtain ⟨a, A, c, hP, e, ht⟩ := h.told hc
    exact ⟨a, A, c, hP, e, (ht.under hb (fun k hk => hk.1)).mono fun k hk => ⟨Nat.lt_of_lt_of_le hk.1 hb.size, hk.2⟩⟩, h.none_, fun hc => by
    obtain ⟨g, e, h1, h2, y0, y1, y2, y3, h4, h5⟩ := h.box hc
    exact ⟨g, e, h1, Nat.lt_of_lt_of_le h2 hb.size, y0, y1, y2, y3, h4.below hb h2, h5⟩, h.ord⟩
theorem One.call {x' : Value} (h : One B P false cb cs x bx w) (hB : B ≤ w.heap.size) (hb : Below w.heap.size w w') (ht : TAt w' (fun k => k < B ∨ Fr w w' k) a x') (hP : P a) : One B P true cb cs x' bx w' := by
  have hl := h.later hb
  have hno : cs = true → False := fun hc => by have := (h.ord hc).1; cases this
  refine ⟨fun _ => ?_, h.none_, fun hc => ?_, fun hc => (hno hc).elim⟩
  · obtain ⟨A, c, e, _⟩ := ht.inv
    have hs := hb.size
    refine ⟨a, A, c, hP, e, ht.mono fun k hk => ⟨by rcases hk with hk | hk; omega; exact hk.2, fun e => ?_⟩⟩
    cases cb with
    | false => exact h.none_ rfl k e
    | true =>
      obtain ⟨g, e2, h1, h2, _⟩ := h.box rfl
      rw [e2] at e
      have := ptr_inj e
      rcases hk with hk | hk
      · omega
      · have := hk.1; omega
  · obtain ⟨g, e, h1, h2, y0, y1, y2, y3, h4, h5⟩ := hl.box hc
    exact ⟨g, e, h1, h2, y0, y1, y2, y3, h4, fun hc => (hno hc).elim⟩
theorem One.mine {y0 y1 y2 y3 : Value} (h : One B P cc false cs x bx w) (hB : B ≤ w.heap.size) : One B P cc true cs x (ptr w.heap.size) (w.alloc (.cells #[y0, y1, y2, y3] 24)) := by
  have hb : Below w.heap.size w (w.alloc (.cells #[y0, y1, y2, y3] 24)) := (Below.refl _ _).alloc (Nat.le_refl _) _
  have hno : cs = true → False := fun hc => by have := (h.ord hc).2; cases this
  refine ⟨fun hc => ?_, nofun, fun _ => ⟨w.heap.size, rfl, hB, by rw [World.size_alloc]; omega, y0, y1, y2, y3, Blk.new _ _ _, fun hc => (hno hc).elim⟩, fun hc => (hno hc).elim⟩
  obtain ⟨a, A, c, hP, e, ht⟩ := h.told hc
  refine ⟨a, A, c, hP, e, (ht.under hb (fun k hk => hk.1)).mono fun k hk => ⟨by rw [World.size_alloc]; have := hk.1; omega, fun e => ?_⟩⟩
  have := ptr_inj e; have := hk.1; omega
theorem One.put {g : Nat} {z0 z1 z2 z3 : Value} (h : One B P true true cs (.agg #[z0, z1, z2, z3]) (ptr g) w) : One B P true true true (.agg #[z0, z1, z2, z3]) (ptr g) (put4 w g z0 z1 z2 z3) := by
  refine ⟨fun hc => ?_, h.none_, fun hc => ?_, fun _ => ⟨rfl, rfl⟩⟩
  · obtain ⟨a, A, c, hP, e, ht⟩ := h.told hc
    exact ⟨a, A, c, hP, e, (ht.keep fun p hp => put4_cell _ _ _ _ _ _ p (fun e => hp.2 (by rw [e]))).mono fun k hk => ⟨by rw [put4_size]; exact hk.1, hk.2⟩⟩
  · obtain ⟨g', e, h1, h2, y0, y1, y2, y3, h4, h5⟩ := h.box hc
    have := ptr_inj e
    subst this
    exact ⟨g, rfl, h1, by rw [put4_size]; exact h2, z0, z1, z2, z3, put4_blk h4 _ _ _ _, fun _ => ⟨rfl, rfl⟩⟩
/-- The end: the term stands in its variable. -/
theorem One.done (h : One B P true true true x bx w) : ∃ g a A c, bx = ptr g ∧ B ≤ g ∧ P a ∧ x = tv a A c ∧ Blk w g 24 #[.int .i64 a.k, .int .i64 a.n, .string a.s, .slice A a.l.length c] ∧ TA w a (tv a A c) := by
  obtain ⟨a, A, c, hP, e, ht⟩ := h.told rfl
  obtain ⟨g, e2, h1, h2, y0, y1, y2, y3, h4, h5⟩ := h.box rfl
  obtain ⟨_, h6⟩ := h5 rfl
  rw [e] at h6
  unfold tv at h6
  injection h6 with h6
  rw [← h6] at h4
  exact ⟨g, a, A, c, e2, h1, hP, e, h4, by rw [← e]; exact ht.mono fun k hk => hk.1⟩
end
end Go.Proofs.Ytlaplakaifmpeaa.K
