/- A range over a function whose loop's body has one variable that grows, a row of its own: what a round keeps. No program in sight. -/
import Derived.Test.YtbpdaoedmjpdpaaKeep
import Derived.Test.YtbpdaoedmjpdpaaTm
import Derived.RangeFuncNested
import Derived.RangeFuncBound
import Derived.RangeFuncCalls
import Derived.RangeFuncLeaves
namespace Go.Proofs.Ytbpdaoedmjpdpaa.K
open Go.RowKit
set_option linter.unusedVariables false
set_option linter.unusedSimpArgs false

/-- The blocks that belong to the variable in block b: its own, and the one that it points into. -/
def Rb (b : Nat) (W : World) (k : Nat) : Prop := k = b ∨ ∃ o n c, W.cell? ⟨b, 0, none⟩ = some (.slice (some ⟨k, o, none⟩) n c)
def Vb (b : Nat) (W : World) : Prop := b < W.heap.size ∧ ∀ k, Rb b W k → k < W.heap.size
/-- What a round keeps: all cells but the variable's. -/
def Kb (b : Nat) (A B : World) : Prop := A.heap.size ≤ B.heap.size ∧ (Vb b A → Vb b B) ∧ ∀ k, k < A.heap.size → ¬ Rb b A k → ¬ Rb b B k ∧ ∀ o : Obj, A.heap[k]? = some o → o.isCells = true → B.heap[k]? = some o
section
variable {b : Nat} {A B C W : World}
theorem Kb.refl (b : Nat) (W : World) : Kb b W W := ⟨Nat.le_refl _, id, fun k _ h => ⟨h, fun o ho _ => ho⟩⟩
theorem Kb.trans (h : Kb b A B) (h' : Kb b B C) : Kb b A C := ⟨Nat.le_trans h.1 h'.1, fun v => h'.2.1 (h.2.1 v), fun k hk hr => by
  obtain ⟨h1, h2⟩ := h.2.2 k hk hr
  obtain ⟨h3, h4⟩ := h'.2.2 k (Nat.lt_of_lt_of_le hk h.1) h1
  exact ⟨h3, fun o ho hc => h4 o (h2 o ho hc) hc⟩⟩
theorem Rb.same {k : Nat} (hc : B.cell? ⟨b, 0, none⟩ = A.cell? ⟨b, 0, none⟩) : Rb b B k ↔ Rb b A k := by unfold Rb; rw [hc]
theorem Rb.alloc {k : Nat} (hb : b < W.heap.size) (o : Obj) : Rb b (W.alloc o) k ↔ Rb b W k := Rb.same (World.cell?_alloc_lt W o ⟨b, 0, none⟩ hb)
theorem Vb.alloc (h : Vb b W) (o : Obj) : Vb b (W.alloc o) := ⟨by rw [World.size_alloc]; have := h.1; omega, fun k hk => by
  have := h.2 k ((Rb.alloc h.1 o).1 hk)
  rw [World.size_alloc]; omega⟩
theorem Vb.new (h : Vb b W) (o : Obj) : ¬ Rb b (W.alloc o) W.heap.size := fun hk => by
  have := h.2 _ ((Rb.alloc h.1 o).1 hk)
  omega
theorem Kb.alloc (h : Kb b A W) (hv : Vb b W) (o : Obj) : Kb b A (W.alloc o) := h.trans ⟨by rw [World.size_alloc]; omega, fun v => v.alloc o, fun k hk hr => ⟨fun h => hr ((Rb.alloc hv.1 o).1 h), fun o' ho _ => (Below.heap_alloc W o k hk).trans ho⟩⟩
theorem Vb.drew (h : Vb b W) : Vb b W.drew := h
theorem Kb.drew (h : Kb b A W) : Kb b A W.drew := h
/-- A block that is no cells turns. -/
theorem Kb.put {w : World} (hb : b < w.heap.size) (W : World) (l : Nat) (o o' : Obj) (hl : w.heap.size ≤ l) (h : W.heap[l]? = some o) (hc : o.isCells = false) : Kb b W (W.putObj l o') := by
  have hg := grownBy_putObj' W l o'
  have hlt := (Array.getElem?_eq_some_iff.1 h).1
  have hs : (W.putObj l o').cell? ⟨b, 0, none⟩ = W.cell? ⟨b, 0, none⟩ := World.cell?_of_block (World.putObj_heap_other (by show b ≠ l; omega))
  refine ⟨hg.size, fun v => ⟨Nat.lt_of_lt_of_le v.1 hg.size, fun k hk => Nat.lt_of_lt_of_le (v.2 k ((Rb.same hs).1 hk)) hg.size⟩, fun k hk hr => ⟨fun h => hr ((Rb.same hs).1 h), fun o2 ho hc2 => ?_⟩⟩
  refine (World.putObj_heap_other (fun e => ?_)).trans ho
  subst e
  rw [h] at ho
  injection ho with ho
  rw [ho, hc2] at hc
  cases hc
theorem Kb.cell (h : Kb b A B) {p : Addr} {x : Value} (hp : ¬ Rb b A p.block) (hc : A.cell? p = some x) : B.cell? p = some x ∧ ¬ Rb b B p.block := by
  have hlt := World.block_lt_of_cell? _ _ hc
  obtain ⟨h1, h2⟩ := h.2.2 _ hlt hp
  refine ⟨?_, h1⟩
  have hc0 := hc
  unfold World.cell? at hc
  rcases ho : A.heap[p.block]? with _ | o
  · rw [ho] at hc; cases hc
  · have hcells : o.isCells = true := by
      rw [ho] at hc
      cases o <;> simp_all [Obj.isCells]
    rw [← hc0]
    exact World.cell?_of_block ((h2 o ho hcells).trans ho.symm)
theorem Kb.blk (h : Kb b A B) {g : Nat} {t : TypeId} {cs : Array Value} (hg : ¬ Rb b A g) (hB : Blk A g t cs) : Blk B g t cs ∧ ¬ Rb b B g := by
  obtain ⟨h1, h2⟩ := h.2.2 _ hB.lt hg
  exact ⟨h2 _ hB rfl, h1⟩
theorem Kb.slot (h : Kb b A B) {Ad : Option Addr} {i : Nat} {v : Value} (hs : Slot A (fun k => ¬ Rb b A k) Ad i v) : Slot B (fun k => ¬ Rb b B k) Ad i v := by
  obtain ⟨bl, o, x0, x1, x2, x3, rfl, hb, rfl, d0, d1, d2, d3⟩ := hs
  obtain ⟨e0, hb'⟩ := h.cell (p := ⟨bl, o + i * 4, none⟩) hb d0
  exact ⟨bl, o, x0, x1, x2, x3, rfl, hb', rfl, e0, (h.cell (p := ⟨bl, o + i * 4 + 1, none⟩) hb d1).1, (h.cell (p := ⟨bl, o + i * 4 + 2, none⟩) hb d2).1, (h.cell (p := ⟨bl, o + i * 4 + 3, none⟩) hb d3).1⟩
theorem Kb.ta (h : Kb b A B) {t : Tm} {v : Value} (ht : TAt A (fun k => ¬ Rb b A k) t v) : TAt B (fun k => ¬ Rb b B k) t v := by
  induction ht with
  | mk t Ad c V ok hs ht ih => exact .mk t Ad c V ok (fun i u hu => h.slot (hs i u hu)) (fun i u hu => ih i u hu)
theorem Kb.ts (h : Kb b A B) {l : List Tm} {Ad : Option Addr} (ht : TsAt A (fun k => ¬ Rb b A k) Ad l) : TsAt B (fun k => ¬ Rb b B k) Ad l := fun i u hu => by
  obtain ⟨v, h1, h2⟩ := ht i u hu
  exact ⟨v, h.slot h1, h.ta h2⟩
end
/-- Below a world in which the variable points nowhere. -/
theorem Vb.below {b : Nat} {w W : World} (hv : Vb b w) (h : Below w.heap.size w W) : Vb b W := ⟨Nat.lt_of_lt_of_le hv.1 h.size, fun k hk => Nat.lt_of_lt_of_le (hv.2 k ((Rb.same (h.cell (p := ⟨b, 0, none⟩) hv.1)).1 hk)) h.size⟩
theorem room_of_none {F : Fence} (hd : F.depth = none) (k : Nat) : F.room k := fun d h => by rw [hd] at h; cases h
theorem RoundIn.anyDepth {F : Fence} (hd : F.depth = none) {m m' : Nat} {P : Program} {l : Nat} {f : FuncId} {tmps : Array Value} {assign body : Code} {w : World} {R : Ending → World → Prop}
    (h : RoundIn F m P l f tmps assign body w R) : RoundIn F m' P l f tmps assign body w R := ⟨h.1, fun c cs _ => h.2 c cs (room_of_none hd _)⟩
/-- Where no depth is asked the figures are all one. -/
theorem YieldAt.anyDepth {F : Fence} (hd : F.depth = none) {m : Nat} (m' : Nat) {P : Program} {l : Nat} {args : Array Value} {W : World} {R : Ending → World → Prop} (h : YieldAt F m P l args W R) : YieldAt F m' P l args W R := by
  obtain ⟨fn, tmps, assign, body, hy, hR⟩ := h
  exact ⟨fn, tmps, assign, body, hy, K.RoundIn.anyDepth hd hR⟩
/-- A byte. -/
abbrev B8 := { x : Int // 0 ≤ x ∧ x ≤ 255 }
def b8 (x : Int) : B8 := ⟨x % 256, Int.emod_nonneg _ (by decide), by have := Int.emod_lt_of_pos x (b := 256) (by decide); omega⟩
def enc8 (x : B8) : Array Value := #[.int .u8 x.1]
/-- What has come abides new blocks. -/
theorem abides_alloc {β : Type} {B : Nat} {J : β → World → Prop} (hJ : AbidesFrom B J) {s : β} {W : World} (o : Obj) (h : J s W) : J s (W.alloc o) := hJ s W _ none h (World.grownBy_alloc W o none) (fun r e => by cases e)
theorem abides_drew {β : Type} {B : Nat} {J : β → World → Prop} (hJ : AbidesFrom B J) {s : β} {W : World} (h : J s W) : J s W.drew := hJ s W _ none h ⟨rfl, rfl, rfl, Nat.le_refl _, fun _ _ _ => rfl⟩ (fun r e => by cases e)
/-- A round told: it goes on with one more, or stops. -/
def YOk (P : Program) (b l N : Nat) (J Jx : List B8 → World → Prop) : Prop :=
  ∀ (m : Nat) (pre : List B8) (x : B8) (W : World), J pre W → pre.length < N → YieldAt Fence.wide m P l #[.int .u8 x.1] W fun e W' =>
    (e = .returned (.bool true) ∧ J (pre ++ [x]) W' ∧ Kb b W W') ∨ (e = .returned (.bool false) ∧ Jx (pre ++ [x]) W')
end Go.Proofs.Ytbpdaoedmjpdpaa.K
