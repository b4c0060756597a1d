/- The helpers of AtomOnce: a table and a list of numbers beside it. -/
import Derived.Test.YtnomnkohhfkdnaaAtomKnown
import Derived.Test.YtnomnkohhfkdnaaOpen
import Derived.Test.YtnomnkohhfkdnaaOnce06
import Derived.Lib.Strings
namespace Go.Proofs.Ytnomnkohhfkdnaa.At
open Go.RowKit K AtomKnown
set_option linter.unusedVariables false
set_option linter.unusedSimpArgs false

theorem Tab.grown {w w' : World} {F : Nat → Prop} {g : Nat} {L : List ByteArray} {row : Option Nat} (h : Tab w F g L) (hg : w.grownBy w' row) (hn : ∀ r, row = some r → ¬ F r) : Tab w' F g L := by
  obtain ⟨bm, v, D, fl, fg, fm, fv, hB, hM, hD, hR, r⟩ := h
  refine ⟨bm, v, D, fun k hk => Nat.lt_of_lt_of_le (fl k hk) hg.size, fg, fm, fv, hB.grown hg (fun e => hn _ e.symm fg), hM.kept hg (fun e => hn _ e.symm fm), hD, hR.kept hg ?_, r⟩
  cases hv : v.ownBlock with
  | none => exact .inl rfl
  | some x => exact .inr (fun e => hn x e.symm (fv x hv))
theorem Tab.keep {w w' : World} {F G : Nat → Prop} {g : Nat} {L : List ByteArray} (h : Tab w F g L) (hk : Keep G w w') (hn : ∀ r, F r → ¬ G r) : Tab w' F g L := by
  obtain ⟨bm, v, D, fl, fg, fm, fv, hB, hM, hD, hR, r⟩ := h
  exact ⟨bm, v, D, fun k hk' => Nat.lt_of_lt_of_le (fl k hk') hk.size, fg, fm, fv, hB.keep hk (hn _ fg), ownsMap_keep hM hk (hn _ fm), hD, ownsRow_keep hR hk (fun r hr => hn _ (fv r hr)), r⟩

/-- A table, and a slice of integers beside it, all from block B on. -/
def StN (B : Nat) (w0 : World) (g : Nat) (L : List ByteArray) (v : Value) (n : Nat) (xs : List Value) (w : World) : Prop :=
  Below B w0 w ∧ B ≤ w.heap.size ∧ w.ownsRow B 3 1 v n xs ∧ ∃ F : Nat → Prop, Tab w F g L ∧ (∀ k, F k → B ≤ k) ∧ ∀ r, v.ownBlock = some r → ¬ F r
theorem StN.start {B : Nat} {w0 w : World} {g : Nat} {L : List ByteArray} (h : St B w0 g L w) : StN B w0 g L (.slice none 0 0) 0 [] w := by
  obtain ⟨h1, h2, F, hT, hF⟩ := h
  exact ⟨h1, h2, World.ownsRow_nil _ _ _ _, F, hT, hF, by simp [Value.ownBlock]⟩
theorem StN.st {B : Nat} {w0 w : World} {g n : Nat} {L : List ByteArray} {v : Value} {xs : List Value} (h : StN B w0 g L v n xs w) : St B w0 g L w := by
  obtain ⟨h1, h2, _, F, hT, hF, _⟩ := h
  exact ⟨h1, h2, F, hT, hF⟩
theorem StN.drewN {B : Nat} {w0 w : World} {g n : Nat} {L : List ByteArray} {v : Value} {xs : List Value} (h : StN B w0 g L v n xs w) (k : Nat) : StN B w0 g L v n xs (w.drewN k) := by
  obtain ⟨h1, h2, h3, F, hT, hF, hv⟩ := h
  refine ⟨⟨h1.os, h1.tape, h1.output, h1.size, h1.block⟩, h2, h3, F, ?_, hF, hv⟩
  obtain ⟨bm, v, D, r⟩ := hT
  exact ⟨bm, v, D, r⟩
theorem StN.intern {B : Nat} {w0 w : World} {g n : Nat} {L : List ByteArray} {v : Value} {xs : List Value} (h : StN B w0 g L v n xs w) (s : ByteArray) (hs : s.size ≤ maxLen) :
    Calls Try.prog 12 #[.pointer (some ⟨g, 0, none⟩), .string s] w fun e w' => e = .returned (.tuple #[.int .i64 (inN L s), .int .i64 (inE L s)]) ∧ StN B w0 g (inL L s) v n xs w' := by
  obtain ⟨h1, h2, h3, F, hT, hF, hv⟩ := h
  refine (intern_any g L s w F hT hs).mono fun e w' ⟨he, F', hT', hF', hK⟩ => ⟨he, hK.below h1 h2 (fun i hi hf => by have := hF i hf; omega), Nat.le_trans h2 hK.size, ownsRow_keep h3 hK hv, F', hT', fun k hk => ?_, fun r hr hf => ?_⟩
  · rcases hF' k hk with h | h
    · exact hF k h
    · omega
  · rcases hF' r hf with h | h
    · exact hv r hr h
    · have := (h3.lt r hr).2; omega
theorem StN.appended {B : Nat} {w0 w w1 : World} {g n : Nat} {L : List ByteArray} {v v' : Value} {xs : List Value} {x : Value} {o : Obj} (h : StN B w0 g L v n xs w) (hR : w1.ownsRow B 3 1 v' (n + 1) (xs ++ [x])) (hg : (w.alloc o).grownBy w1 v.ownBlock)
    (hat : v'.ownBlock = v.ownBlock ∨ v'.ownBlock = some (w.alloc o).heap.size) : StN B w0 g L v' (n + 1) (xs ++ [x]) w1 := by
  obtain ⟨h1, h2, h3, F, hT, hF, hv⟩ := h
  have hT1 : Tab (w.alloc o) F g L := hT.grown (World.grownBy_alloc w o none) (by simp)
  have hb : Below B w0 w1 := (h1.alloc h2 o).grown hg (by simp; omega) (fun k hk => (h3.lt k hk).1)
  refine ⟨hb, by have := hg.size; simp at this; omega, hR, F, hT1.grown hg hv, hF, fun r hr hf => ?_⟩
  rcases hat with h | h
  · rw [h] at hr; exact hv r hr hf
  · rw [h] at hr
    injection hr with hr
    obtain ⟨bm, v, D, fl, _⟩ := hT
    have := fl r hf
    simp at hr
    omega
theorem info3 : (Try.prog.info? 3).map (fun i => (i.zero, i.size, i.bytes)) = some (some (.int .i64 0), 1, 8) := by kernel_rfl
def numV (xs : List ByteArray) (s : ByteArray) : Value := .int .i64 (num xs s : Int)
end Go.Proofs.Ytnomnkohhfkdnaa.At
