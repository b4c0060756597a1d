/- 'x, y := f(a), g(b)': two terms told, each stored in a variable of its own, in whatever order. Plain facts. -/
import Derived.Test.YtlaplakaifmpeaaTmCopy
import Derived.Test.YtlaplakaifmpeaaInv
namespace Go.Proofs.Ytlaplakaifmpeaa.K
open Go.RowKit
set_option linter.unusedVariables false
set_option linter.unusedSimpArgs false

abbrev ptr (k : Nat) : Value := .pointer (some ⟨k, 0, none⟩)
theorem ptr_inj {j k : Nat} (h : ptr j = ptr k) : j = k := by
  injection h with h
  injection h with h
  injection h
/-- One of the two: has it been told (cc), is its variable there (cb), does that hold it (cs)? bx: its variable; ox: the other's. -/
structure Half (B : Nat) (a : Tm) (cc cb cs : Bool) (x bx ox : Value) (w : World) : Prop where
  told : cc = true → ∃ A c, x = tv a A c ∧ TAt w (fun k => B ≤ k ∧ k < w.heap.size ∧ bx ≠ ptr k ∧ ox ≠ ptr k) a x
  none_ : cb = false → ∀ k, bx ≠ ptr k
  box : cb = true → ∃ g, bx = ptr g ∧ B ≤ g ∧ g < w.heap.size ∧ ox ≠ ptr g ∧ ∃ y0 y1 y2 y3, Blk w g 24 #[y0, y1, y2, y3] ∧ (cs = true → cc = true ∧ x = .agg #[y0, y1, y2, y3])
  ord : cs = true → cc = true ∧ cb = true
section
variable {B : Nat} {a : Tm} {cc cb cs : Bool} {x bx ox : Value} {w w' : World}
theorem Half.start (u ou x : Value) (h : ∀ k, u ≠ ptr k) : Half B a false false false x u ou w := ⟨nofun, fun _ => h, nofun, nofun⟩
theorem Half.lt (h : Half B a cc cb cs x bx ox w) : ∀ k, bx = ptr k → k < w.heap.size := fun k hk => by
  cases cb with
  | false => exact absurd hk (h.none_ rfl k)
  | true =>
    obtain ⟨g, e, _, hg, _⟩ := h.box rfl
    rw [e] at hk
    rw [← ptr_inj hk]; exact hg
theorem Half.later (h : Half B a cc cb cs x bx ox w) (hb : Below w.heap.size w w') : Half B a cc cb cs x bx ox w' :=
  ⟨fun hc => by
    obtain ⟨A, c, e, ht⟩ := h.told hc
    exact ⟨A, c, e, (ht.under hb (fun k hk => hk.2.1)).mono fun k hk => ⟨hk.1, Nat.lt_of_lt_of_le hk.2.1 hb.size, hk.2.2⟩⟩, h.none_, fun hc => by
    obtain ⟨g, e, h1, h2, h3, y0, y1, y2, y3, h4, h5⟩ := h.box hc
    exact ⟨g, e, h1, Nat.lt_of_lt_of_le h2 hb.size, h3, y0, y1, y2, y3, h4.below hb h2, h5⟩, h.ord⟩
theorem Half.call {x' : Value} (h : Half B a false cb cs x bx ox w) (hB : B ≤ w.heap.size) (ho : ∀ k, ox = ptr k → k < w.heap.size) (hb : Below w.heap.size w w') (ht : TAt w' (Fr w w') a x') : Half B a true cb cs x' bx ox w' := by
  have hl := h.later hb
  have hno : cs = true → False := fun hc => by have := (h.ord hc).1; cases this
  refine ⟨fun _ => ?_, h.none_, fun hc => ?_, fun hc => (hno hc).elim⟩
  · obtain ⟨A, c, e, _⟩ := ht.inv
    refine ⟨A, c, e, ht.mono fun k hk => ⟨Nat.le_trans hB hk.1, hk.2, fun e => ?_, fun e => ?_⟩⟩
    · have := h.lt k e; have := hk.1; omega
    · have := ho k e; have := hk.1; omega
  · obtain ⟨g, e, h1, h2, h3, y0, y1, y2, y3, h4, h5⟩ := hl.box hc
    exact ⟨g, e, h1, h2, h3, y0, y1, y2, y3, h4, fun hc => (hno hc).elim⟩
theorem Half.mine {y0 y1 y2 y3 : Value} (h : Half B a cc false cs x bx ox w) (hB : B ≤ w.heap.size) (ho : ∀ k, ox = ptr k → k < w.heap.size) : Half B a cc true cs x (ptr w.heap.size) ox (w.alloc (.cells #[y0, y1, y2, y3] 24)) := by
  have hb : Below w.heap.size w (w.alloc (.cells #[y0, y1, y2, y3] 24)) := (Below.refl _ _).alloc (Nat.le_refl _) _
  have hno : cs = true → False := fun hc => by have := (h.ord hc).2; cases this
  refine ⟨fun hc => ?_, nofun, fun _ => ⟨w.heap.size, rfl, hB, by rw [World.size_alloc]; omega, fun e => ?_, y0, y1, y2, y3, Blk.new _ _ _, fun hc => (hno hc).elim⟩, fun hc => (hno hc).elim⟩
  · obtain ⟨A, c, e, ht⟩ := h.told hc
    refine ⟨A, c, e, (ht.under hb (fun k hk => hk.2.1)).mono fun k hk => ⟨hk.1, by rw [World.size_alloc]; have := hk.2.1; omega, fun e => ?_, hk.2.2.2⟩⟩
    have := ptr_inj e; have := hk.2.1; omega
  · have := ho _ e; omega
theorem Half.other (h : Half B a cc cb cs x bx ox w) (o : Obj) : Half B a cc cb cs x bx (ptr w.heap.size) (w.alloc o) := by
  have hb : Below w.heap.size w (w.alloc o) := (Below.refl _ _).alloc (Nat.le_refl _) _
  refine ⟨fun hc => ?_, h.none_, fun hc => ?_, h.ord⟩
  · obtain ⟨A, c, e, ht⟩ := h.told hc
    refine ⟨A, c, e, (ht.under hb (fun k hk => hk.2.1)).mono fun k hk => ⟨hk.1, by rw [World.size_alloc]; have := hk.2.1; omega, hk.2.2.1, fun e => ?_⟩⟩
    have := ptr_inj e; have := hk.2.1; omega
  · obtain ⟨g, e, h1, h2, h3, y0, y1, y2, y3, h4, h5⟩ := h.box hc
    refine ⟨g, e, h1, by rw [World.size_alloc]; omega, fun e => ?_, y0, y1, y2, y3, h4.alloc _, h5⟩
    have := ptr_inj e; omega
theorem Half.put {g : Nat} {z0 z1 z2 z3 : Value} (h : Half B a true true cs (.agg #[z0, z1, z2, z3]) (ptr g) ox w) : Half B a true true true (.agg #[z0, z1, z2, z3]) (ptr g) ox (put4 w g z0 z1 z2 z3) := by
  refine ⟨fun hc => ?_, h.none_, fun hc => ?_, fun _ => ⟨rfl, rfl⟩⟩
  · obtain ⟨A, c, e, ht⟩ := h.told hc
    exact ⟨A, c, e, (ht.keep fun p hp => put4_cell _ _ _ _ _ _ p (fun e => hp.2.2.1 (by rw [e]))).mono fun k hk => ⟨hk.1, by rw [put4_size]; exact hk.2.1, hk.2.2⟩⟩
  · obtain ⟨g', e, h1, h2, h3, y0, y1, y2, y3, h4, h5⟩ := h.box hc
    have := ptr_inj e
    subst this
    exact ⟨g, rfl, h1, by rw [put4_size]; exact h2, h3, z0, z1, z2, z3, put4_blk h4 _ _ _ _, fun _ => ⟨rfl, rfl⟩⟩
theorem Half.aside {g : Nat} {z0 z1 z2 z3 : Value} (h : Half B a cc cb cs x bx (ptr g) w) : Half B a cc cb cs x bx (ptr g) (put4 w g z0 z1 z2 z3) := by
  refine ⟨fun hc => ?_, h.none_, fun hc => ?_, h.ord⟩
  · obtain ⟨A, c, e, ht⟩ := h.told hc
    exact ⟨A, c, e, (ht.keep fun p hp => put4_cell _ _ _ _ _ _ p (fun e => hp.2.2.2 (by rw [e]))).mono fun k hk => ⟨hk.1, by rw [put4_size]; exact hk.2.1, hk.2.2⟩⟩
  · obtain ⟨g', e, h1, h2, h3, y0, y1, y2, y3, h4, h5⟩ := h.box hc
    exact ⟨g', e, h1, by rw [put4_size]; exact h2, h3, y0, y1, y2, y3, put4_far h4 (fun e => h3 (by rw [e])) _ _ _ _, h5⟩
/-- The end: the term stands in its variable. -/
theorem Half.done (h : Half B a true true true x bx ox w) : ∃ g A c, bx = ptr g ∧ B ≤ g ∧ x = tv a A c ∧ Blk w g 24 #[.int .i64 a.k, .int .i64 a.n, .string a.s, .slice A a.l.length c] ∧ TA w a (tv a A c) := by
  obtain ⟨A, c, e, ht⟩ := h.told rfl
  obtain ⟨g, e2, h1, h2, h3, y0, y1, y2, y3, h4, h5⟩ := h.box rfl
  obtain ⟨_, h6⟩ := h5 rfl
  rw [e] at h6
  unfold tv at h6
  injection h6 with h6
  rw [← h6] at h4
  exact ⟨g, A, c, e2, h1, e, h4, by rw [← e]; exact ht.mono fun k hk => hk.2.1⟩
end
end Go.Proofs.Ytlaplakaifmpeaa.K
