/- 'x, y := f(a), g(b)': two terms told, each stored in a variable of its own, in whatever order; what they are made of may have been there before. Plain facts. -/
import Derived.Test.YtiknelmaepkdkaaTold2
namespace Go.Proofs.Ytiknelmaepkdkaa.K
open Go.RowKit
set_option linter.unusedVariables false
set_option linter.unusedSimpArgs false

/-- A block that is there and is neither of the two variables. -/
def Free (w : World) (bx ox : Value) (k : Nat) : Prop := k < w.heap.size ∧ bx ≠ ptr k ∧ ox ≠ ptr k
/-- A term told that stands in no variable yet. -/
def Pt (a : Tm) (cc : Bool) (x bx ox : Value) (w : World) : Prop := cc = true → ∃ A c, x = tv a A c ∧ TAt w (Free w bx ox) a x
section
variable {a : Tm} {cc : Bool} {x bx ox : Value} {w w' : World}
theorem Pt.start (x : Value) : Pt a false x bx ox w := nofun
theorem Free.later (hb : Below w.heap.size w w') {k : Nat} (h : Free w bx ox k) : Free w' bx ox k := ⟨Nat.lt_of_lt_of_le h.1 hb.size, h.2⟩
theorem Pt.later (h : Pt a cc x bx ox w) (hb : Below w.heap.size w w') : Pt a cc x bx ox w' := fun hc => by
  obtain ⟨A, c, e, ht⟩ := h hc
  exact ⟨A, c, e, (ht.under hb (fun k hk => hk.1)).mono fun k hk => hk.later hb⟩
theorem Pt.call {x' : Value} (ht : TAt w (Free w bx ox) a x') : Pt a true x' bx ox w := fun _ => by
  obtain ⟨A, c, e, _⟩ := ht.inv
  exact ⟨A, c, e, ht⟩
theorem Pt.mine (h : Pt a cc x bx ox w) (o : Obj) : Pt a cc x (ptr w.heap.size) ox (w.alloc o) := fun hc => by
  obtain ⟨A, c, e, ht⟩ := h hc
  refine ⟨A, c, e, (ht.under ((Below.refl _ w).alloc (Nat.le_refl _) o) (fun k hk => hk.1)).mono fun k hk => ⟨by rw [World.size_alloc]; have := hk.1; omega, fun e => ?_, hk.2.2⟩⟩
  have := ptr_inj e; have := hk.1; omega
theorem Pt.other (h : Pt a cc x bx ox w) (o : Obj) : Pt a cc x bx (ptr w.heap.size) (w.alloc o) := fun hc => by
  obtain ⟨A, c, e, ht⟩ := h hc
  refine ⟨A, c, e, (ht.under ((Below.refl _ w).alloc (Nat.le_refl _) o) (fun k hk => hk.1)).mono fun k hk => ⟨by rw [World.size_alloc]; have := hk.1; omega, hk.2.1, fun e => ?_⟩⟩
  have := ptr_inj e; have := hk.1; omega
theorem Pt.put {g : Nat} {z0 z1 z2 z3 : Value} (h : Pt a cc x bx ox w) (hg : bx = ptr g ∨ ox = ptr g) : Pt a cc x bx ox (put4 w g z0 z1 z2 z3) := fun hc => by
  obtain ⟨A, c, e, ht⟩ := h hc
  refine ⟨A, c, e, (ht.keep fun p hp => put4_cell _ _ _ _ _ _ p (fun e => ?_)).mono fun k hk => ⟨by rw [put4_size]; exact hk.1, hk.2⟩⟩
  rcases hg with h | h
  · exact hp.2.1 (by rw [h, e])
  · exact hp.2.2 (by rw [h, e])
end
/-- One of the two: has it been told (cc), is its variable there (cb), does that hold it (cs)? bx: its variable; ox: the other's. -/
structure Hf (B : Nat) (a : Tm) (cc cb cs : Bool) (x bx ox : Value) (w : World) : Prop where
  told : Pt a cc x bx ox w
  none_ : cb = false → ∀ k, bx ≠ ptr k
  box : cb = true → ∃ g, bx = ptr g ∧ B ≤ g ∧ g < w.heap.size ∧ ox ≠ ptr g ∧ ∃ y0 y1 y2 y3, Blk w g 24 #[y0, y1, y2, y3] ∧ (cs = true → cc = true ∧ x = .agg #[y0, y1, y2, y3])
  ord : cs = true → cc = true ∧ cb = true
section
variable {B : Nat} {a : Tm} {cc cb cs : Bool} {x bx ox : Value} {w w' : World}
theorem Hf.start (u ou x : Value) (h : ∀ k, u ≠ ptr k) : Hf B a false false false x u ou w := ⟨nofun, fun _ => h, nofun, nofun⟩
theorem Hf.lt (h : Hf B a cc cb cs x bx ox w) : ∀ k, bx = ptr k → k < w.heap.size := fun k hk => by
  cases cb with
  | false => exact absurd hk (h.none_ rfl k)
  | true =>
    obtain ⟨g, e, _, hg, _⟩ := h.box rfl
    rw [e] at hk
    rw [← ptr_inj hk]; exact hg
theorem Hf.ge (h : Hf B a cc cb cs x bx ox w) : ∀ k, bx = ptr k → B ≤ k := fun k hk => by
  cases cb with
  | false => exact absurd hk (h.none_ rfl k)
  | true =>
    obtain ⟨g, e, hg, _⟩ := h.box rfl
    rw [e] at hk
    rw [← ptr_inj hk]; exact hg
theorem Hf.later (h : Hf B a cc cb cs x bx ox w) (hb : Below w.heap.size w w') : Hf B a cc cb cs x bx ox w' :=
  ⟨h.told.later hb, h.none_, fun hc => by
    obtain ⟨g, e, h1, h2, h3, y0, y1, y2, y3, h4, h5⟩ := h.box hc
    exact ⟨g, e, h1, Nat.lt_of_lt_of_le h2 hb.size, h3, y0, y1, y2, y3, h4.below hb h2, h5⟩, h.ord⟩
theorem Hf.call {x' : Value} (h : Hf B a false cb cs x bx ox w) (hb : Below w.heap.size w w') (ht : TAt w' (Free w' bx ox) a x') : Hf B a true cb cs x' bx ox w' := by
  have hl := h.later hb
  have hno : cs = true → False := fun hc => by have := (h.ord hc).1; cases this
  refine ⟨Pt.call ht, h.none_, fun hc => ?_, fun hc => (hno hc).elim⟩
  obtain ⟨g, e, h1, h2, h3, y0, y1, y2, y3, h4, h5⟩ := hl.box hc
  exact ⟨g, e, h1, h2, h3, y0, y1, y2, y3, h4, fun hc => (hno hc).elim⟩
theorem Hf.mine {y0 y1 y2 y3 : Value} (h : Hf B a cc false cs x bx ox w) (hB : B ≤ w.heap.size) (ho : ∀ k, ox = ptr k → k < w.heap.size) : Hf B a cc true cs x (ptr w.heap.size) ox (w.alloc (.cells #[y0, y1, y2, y3] 24)) := by
  have hno : cs = true → False := fun hc => by have := (h.ord hc).2; cases this
  refine ⟨h.told.mine _, nofun, fun _ => ⟨w.heap.size, rfl, hB, by rw [World.size_alloc]; omega, fun e => ?_, y0, y1, y2, y3, Blk.new _ _ _, fun hc => (hno hc).elim⟩, fun hc => (hno hc).elim⟩
  have := ho _ e; omega
theorem Hf.other (h : Hf B a cc cb cs x bx ox w) (o : Obj) : Hf B a cc cb cs x bx (ptr w.heap.size) (w.alloc o) := by
  refine ⟨h.told.other o, h.none_, fun hc => ?_, h.ord⟩
  obtain ⟨g, e, h1, h2, h3, y0, y1, y2, y3, h4, h5⟩ := h.box hc
  refine ⟨g, e, h1, by rw [World.size_alloc]; omega, fun e => ?_, y0, y1, y2, y3, h4.alloc _, h5⟩
  have := ptr_inj e; omega
theorem Hf.put {g : Nat} {z0 z1 z2 z3 : Value} (h : Hf B a true true cs (.agg #[z0, z1, z2, z3]) (ptr g) ox w) : Hf B a true true true (.agg #[z0, z1, z2, z3]) (ptr g) ox (put4 w g z0 z1 z2 z3) := by
  refine ⟨h.told.put (.inl rfl), h.none_, fun hc => ?_, fun _ => ⟨rfl, rfl⟩⟩
  obtain ⟨g', e, h1, h2, h3, y0, y1, y2, y3, h4, h5⟩ := h.box hc
  have := ptr_inj e
  subst this
  exact ⟨g, rfl, h1, by rw [put4_size]; exact h2, h3, z0, z1, z2, z3, put4_blk h4 _ _ _ _, fun _ => ⟨rfl, rfl⟩⟩
theorem Hf.aside {g : Nat} {z0 z1 z2 z3 : Value} (h : Hf B a cc cb cs x bx (ptr g) w) : Hf B a cc cb cs x bx (ptr g) (put4 w g z0 z1 z2 z3) := by
  refine ⟨h.told.put (.inr rfl), h.none_, fun hc => ?_, h.ord⟩
  obtain ⟨g', e, h1, h2, h3, y0, y1, y2, y3, h4, h5⟩ := h.box hc
  exact ⟨g', e, h1, by rw [put4_size]; exact h2, h3, y0, y1, y2, y3, put4_far h4 (fun e => h3 (by rw [e])) _ _ _ _, h5⟩
/-- The end: the term stands in its variable. -/
theorem Hf.done (h : Hf B a true true true x bx ox w) : ∃ g A c, bx = ptr g ∧ B ≤ g ∧ x = tv a A c ∧ Blk w g 24 #[.int .i64 a.k, .int .i64 a.n, .string a.s, .slice A a.l.length c] ∧ TA w a (tv a A c) := by
  obtain ⟨A, c, e, ht⟩ := h.told rfl
  obtain ⟨g, e2, h1, h2, h3, y0, y1, y2, y3, h4, h5⟩ := h.box rfl
  obtain ⟨_, h6⟩ := h5 rfl
  rw [e] at h6
  unfold tv at h6
  injection h6 with h6
  rw [← h6] at h4
  exact ⟨g, A, c, e2, h1, e, h4, by rw [← e]; exact ht.mono fun k hk => hk.1⟩
end
end Go.Proofs.Ytiknelmaepkdkaa.K
