/- 'append(append([]T{}, l...), t)' at terms, in whatever order its memory is made. Plain facts. -/
import Derived.Test.YtiknelmaepkdkaaTmCopy
namespace Go.Proofs.Ytiknelmaepkdkaa.K
open Go.RowKit
set_option linter.unusedVariables false
set_option linter.unusedSimpArgs false

/-- A row of our own, from block B on, of terms that were there before. -/
def ORow (w : World) (B : Nat) (v : Value) (l : List Tm) : Prop := ∃ vs, TsVs w (· < B) l vs ∧ w.ownsRow B 24 4 v l.length (flat vs)
section
variable {w w' : World} {B : Nat} {v v' : Value} {l : List Tm} {t : Tm}
theorem ORow.lt (h : ORow w B v l) : ∀ r, v.ownBlock = some r → B ≤ r ∧ r < w.heap.size := by
  obtain ⟨vs, _, h⟩ := h
  exact fun r hr => ⟨(h.lt r hr).1, (h.lt r hr).2⟩
theorem ORow.later (h : ORow w B v l) (hB : B ≤ w.heap.size) (hb : Below w.heap.size w w') : ORow w' B v l := by
  obtain ⟨vs, h1, h2⟩ := h
  exact ⟨vs, h1.keep fun p hp => hb.cell (Nat.lt_of_lt_of_le hp hB), ownsRow_below h2 hb fun r hr => (h2.lt r hr).2⟩
theorem ORow.new (w : World) (hB : B ≤ w.heap.size) : ORow (w.alloc (.cells #[] 24)) B (.slice (some ⟨w.heap.size, 0, none⟩) 0 0) [] :=
  ⟨[], .nil, World.ownsRow_lit (base := B) (e := 24) (size := 4) w #[] 0 hB (by simp [maxLen]) rfl⟩
theorem ORow.tsA (h : ORow w B v l) (hB : B ≤ w.heap.size) : ∃ A c, v = .slice A l.length c ∧ TsA w A l := by
  obtain ⟨vs, h1, h2⟩ := h
  obtain ⟨A, c, rfl, _⟩ := ownsRow_form h2
  exact ⟨A, c, rfl, (h1.mono fun b hb => Nat.lt_of_lt_of_le hb hB).slot h2 rfl fun r hr => (h2.lt r hr).2⟩
/-- Terms that were there, appended. -/
theorem ORow.append {A : Option Addr} {c : Nat} {l' : List Tm} (h : ORow w B v l) (hB : B ≤ w.heap.size) (hx : TsAt w (· < B) A l') (hl : l.length + l'.length ≤ 1048576) :
    ∃ v' w', (Builtin.append_ #[22, 22] 22 #[v, .slice A l'.length c]).run Try.prog w = .ok v' w' ∧ ORow w' B v' (l ++ l') ∧ w.grownBy w' v.ownBlock ∧ (v'.ownBlock = v.ownBlock ∨ v'.ownBlock = some w.heap.size) := by
  obtain ⟨vs, h1, h2⟩ := h
  obtain ⟨us, h3, h4⟩ := hx.reads (fun b hb => hb)
  obtain ⟨i0, hi, hz0, hz1, hz2⟩ := info_parts infoT
  obtain ⟨v', w', hrun, hown, hg, hat⟩ := run_append_any w B 22 22 24 i0 _ 4 56 Try.underlying22 hi hz0 hz1 hz2 rfl (by decide) v l.length (flat vs) h2 B A l'.length c (flat us) h4 h3.one_cell (by unfold maxLen; omega) (by omega) hB
  refine ⟨v', w', hrun, ⟨vs ++ us, ?_, ?_⟩, hg, hat⟩
  · exact (h1.append h3).keep fun p hp => World.cell?_of_block (hg.block p.block (by omega) fun e => by have := (h2.lt _ e.symm).1; omega)
  · rw [List.length_append, flat_append]; exact hown
/-- One term that stands in a block of its own, appended. -/
theorem ORow.one {g : Nat} {c : Nat} {k n : Int} {s : ByteArray} {A1 : Option Addr} {m c1 : Nat} (h : ORow w B v l) (hB : B ≤ w.heap.size) (hg : Blk w g 24 #[.int .i64 k, .int .i64 n, .string s, .slice A1 m c1]) (ht : TAt w (· < B) t (.agg #[.int .i64 k, .int .i64 n, .string s, .slice A1 m c1])) (hl : l.length + 1 ≤ 1048576) :
    ∃ v' w', (Builtin.append_ #[22, 22] 22 #[v, .slice (some ⟨g, 0, none⟩) 1 c]).run Try.prog w = .ok v' w' ∧ ORow w' B v' (l ++ [t]) ∧ w.grownBy w' v.ownBlock ∧ (v'.ownBlock = v.ownBlock ∨ v'.ownBlock = some w.heap.size) := by
  obtain ⟨vs, h1, h2⟩ := h
  obtain ⟨i0, hi, hz0, hz1, hz2⟩ := info_parts infoT
  have hr : Reads w w.heap.size 4 (some ⟨g, 0, none⟩) 1 [.int .i64 k, .int .i64 n, .string s, .slice A1 m c1] := ⟨rfl, fun _ => ⟨_, rfl, hg.lt, fun j u hj => by
    rw [add_plain', hg.cell]
    simpa using hj⟩⟩
  obtain ⟨v', w', hrun, hown, hg', hat⟩ := run_append_any w B 22 22 24 i0 _ 4 56 Try.underlying22 hi hz0 hz1 hz2 rfl (by decide) v l.length (flat vs) h2 w.heap.size (some ⟨g, 0, none⟩) 1 c _ hr (one4 _ _ _ _ _ _) (by unfold maxLen; omega) (by omega) hB
  refine ⟨v', w', hrun, ⟨vs ++ [.agg #[.int .i64 k, .int .i64 n, .string s, .slice A1 m c1]], ?_, ?_⟩, hg', hat⟩
  · exact (h1.append (.one ht)).keep fun p hp => World.cell?_of_block (hg'.block p.block (by omega) fun e => by have := (h2.lt _ e.symm).1; omega)
  · rw [List.length_append, flat_snoc]; exact hown
end
/-- How far it has come: p: the empty row is there, q: the list is appended to it, r: the one term stands in a block, s: it is appended. -/
structure Grow (B : Nat) (l : List Tm) (t : Tm) (cs : Array Value) (p q r s : Bool) (x71 x73 x75 x76 : Value) (w : World) : Prop where
  r0 : p = true → q = false → ORow w B x71 []
  r1 : q = true → s = false → ORow w B x73 l
  r2 : s = true → ORow w B x76 (l ++ [t])
  b : r = true → s = false → ∃ g, x75 = .slice (some ⟨g, 0, none⟩) 1 1 ∧ B ≤ g ∧ Blk w g 24 cs ∧ (p = true → q = false → x71.ownBlock ≠ some g) ∧ (q = true → x73.ownBlock ≠ some g)
  o1 : q = true → p = true
  o2 : s = true → q = true ∧ r = true
section
variable {w w' : World} {B : Nat} {l : List Tm} {t : Tm} {cs : Array Value} {p q r s : Bool} {x71 x73 x75 x76 v' : Value}
theorem Grow.start (x71 x73 x75 x76 : Value) : Grow B l t cs false false false false x71 x73 x75 x76 w := ⟨nofun, nofun, nofun, nofun, nofun, nofun⟩
theorem Grow.mk0 (h : Grow B l t cs false q r s x71 x73 x75 x76 w) (hB : B ≤ w.heap.size) : Grow B l t cs true q r s (.slice (some ⟨w.heap.size, 0, none⟩) 0 0) x73 x75 x76 (w.alloc (.cells #[] 24)) := by
  have hq : q = true → False := fun e => by have := h.o1 e; cases this
  have hs : s = true → False := fun e => hq (h.o2 e).1
  refine ⟨fun _ _ => ORow.new w hB, fun e => (hq e).elim, fun e => (hs e).elim, fun e e' => ?_, fun _ => rfl, fun e => (hs e).elim⟩
  obtain ⟨g, h1, h2, h3, h4, h5⟩ := h.b e e'
  refine ⟨g, h1, h2, h3.alloc _, fun _ _ e => ?_, h5⟩
  have hlt := h3.lt
  injection e with e
  simp at e
  omega
theorem Grow.app (h : Grow B l t cs true false r s x71 x73 x75 x76 w) (hB : B ≤ w.heap.size) (hr : ORow w' B v' l) (hg : w.grownBy w' x71.ownBlock) (hat : v'.ownBlock = x71.ownBlock ∨ v'.ownBlock = some w.heap.size) : Grow B l t cs true true r s x71 v' x75 x76 w' := by
  have hs : s = true → False := fun e => by have := (h.o2 e).1; cases this
  refine ⟨fun _ e => (by cases e), fun _ _ => hr, fun e => (hs e).elim, fun e e' => ?_, fun _ => rfl, fun e => (hs e).elim⟩
  obtain ⟨g, h1, h2, h3, h4, h5⟩ := h.b e e'
  have h6 := h4 rfl rfl
  refine ⟨g, h1, h2, (hg.block g h3.lt (fun e => h6 e.symm)).trans h3, fun _ e => (by cases e), fun _ e => ?_⟩
  rcases hat with ha | ha
  · exact h6 (by rw [← ha]; exact e)
  · rw [ha] at e; injection e with e; have := h3.lt; omega
theorem Grow.mk1 (h : Grow B l t cs p q false s x71 x73 x75 x76 w) (hB : B ≤ w.heap.size) : Grow B l t cs p q true s x71 x73 (.slice (some ⟨w.heap.size, 0, none⟩) 1 1) x76 (w.alloc (.cells cs 24)) := by
  have hs : s = true → False := fun e => by have := (h.o2 e).2; cases this
  have hb : Below w.heap.size w (w.alloc (.cells cs 24)) := (Below.refl _ _).alloc (Nat.le_refl _) _
  refine ⟨fun e e' => (h.r0 e e').later hB hb, fun e e' => (h.r1 e e').later hB hb, fun e => (hs e).elim, fun _ _ => ⟨w.heap.size, rfl, hB, Blk.new _ _ _, fun e e' e2 => ?_, fun e e2 => ?_⟩, h.o1, fun e => (hs e).elim⟩
  · have := ((h.r0 e e').lt _ e2).2; omega
  · cases s with
    | true => exact hs rfl
    | false => have := ((h.r1 e rfl).lt _ e2).2; omega
theorem Grow.fin (h : Grow B l t cs true true true false x71 x73 x75 x76 w) (hr : ORow w' B v' (l ++ [t])) : Grow B l t cs true true true true x71 x73 x75 v' w' :=
  ⟨fun _ e => (by cases e), fun _ e => (by cases e), fun _ => hr, fun _ e => (by cases e), fun _ => rfl, fun _ => ⟨rfl, rfl⟩⟩
theorem Grow.later (h : Grow B l t cs p q r s x71 x73 x75 x76 w) (hB : B ≤ w.heap.size) (hb : Below w.heap.size w w') : Grow B l t cs p q r s x71 x73 x75 x76 w' :=
  ⟨fun e e' => (h.r0 e e').later hB hb, fun e e' => (h.r1 e e').later hB hb, fun e => (h.r2 e).later hB hb, fun e e' => by
    obtain ⟨g, h1, h2, h3, h4, h5⟩ := h.b e e'
    exact ⟨g, h1, h2, h3.below hb h3.lt, h4, h5⟩, h.o1, h.o2⟩
end
end Go.Proofs.Ytiknelmaepkdkaa.K
