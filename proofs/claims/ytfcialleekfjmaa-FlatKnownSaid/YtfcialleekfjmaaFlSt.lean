/- What Flatten's walk has in hand: a table of atoms, and a variable whose row grows. -/
import Derived.Test.YtfcialleekfjmaaAtom7
import Derived.Test.YtfcialleekfjmaaFlSpec
import Derived.Test.YtfcialleekfjmaaAppendZ
namespace Go.Proofs.Ytfcialleekfjmaa.Fl
open Go.RowKit K At
set_option linter.unusedVariables false
set_option linter.unusedSimpArgs false

def u64s (O : List Int) : List Value := O.map (Value.int .u64)
/-- The table at g has the atoms L, the variable at gO the words O; of the blocks M. -/
def Fs (w : World) (M : Nat → Prop) (B g gO : Nat) (L : List ByteArray) (O : List Int) : Prop :=
  ∃ F v, (B ≤ w.heap.size ∧ ∀ r, v.ownBlock = some r → B ≤ r) ∧ Tab w F g L ∧ Blk w gO 25 #[v] ∧ w.ownsRow 0 49 1 v O.length (u64s O) ∧ (∀ k, F k → M k) ∧ M gO ∧ ¬ F gO ∧ (∀ r, v.ownBlock = some r → M r ∧ ¬ F r) ∧ ∀ k, M k → k < w.heap.size
/-- Behind a step. -/
def FMoved (w : World) (M : Nat → Prop) (B g gO : Nat) (L : List ByteArray) (O : List Int) (w' : World) : Prop :=
  ∃ M', Fs w' M' B g gO L O ∧ (∀ k, M' k → M k ∨ w.heap.size ≤ k) ∧ Keep M w w'
section
variable {w w1 w2 w' : World} {M M' : Nat → Prop} {B g gO : Nat} {L L' : List ByteArray} {O O' : List Int}
theorem FMoved.stay (h : Fs w M B g gO L O) : FMoved w M B g gO L O w := ⟨M, h, fun k hk => .inl hk, Keep.refl _ _⟩
theorem Fs.cell (h : Fs w M B g gO L O) : ∃ A c, w.cell? ⟨gO, 0, none⟩ = some (.slice A O.length c) ∧ w.frozen? ⟨gO, 0, none⟩ = false ∧ w.ownsRow 0 49 1 (.slice A O.length c) O.length (u64s O) ∧ O.length ≤ c ∧ c ≤ maxLen := by
  obtain ⟨F, v, h0, hT, hB, hR, h1, h2, h3, h4, h5⟩ := h
  obtain ⟨A, c, rfl, k1, k2⟩ := ownsRow_form hR
  exact ⟨A, c, by rw [hB.cell]; rfl, hB.frozen 0, hR, k1, k2⟩
theorem Fs.below (h : Fs w M B g gO L O) (hb : Below w.heap.size w w') : Fs w' M B g gO L O := by
  obtain ⟨F, v, h0, hT, hB, hR, h1, h2, h3, h4, h5⟩ := h
  exact ⟨F, v, ⟨Nat.le_trans h0.1 hb.size, h0.2⟩, hT.keep (G := fun _ => False) (Keep.new hb) (fun _ _ h => h), hB.below hb (h5 _ h2), ownsRow_below hR hb (fun r hr => h5 _ (h4 r hr).1), h1, h2, h3, h4, fun k hk => Nat.lt_of_lt_of_le (h5 k hk) hb.size⟩
theorem FMoved.trans (h : FMoved w M B g gO L O w1) (hb : Below w1.heap.size w1 w2) (h' : ∀ M', Fs w2 M' B g gO L O → (∀ k, M' k → M k ∨ w.heap.size ≤ k) → (∀ k, M' k → k < w1.heap.size) → FMoved w2 M' B g gO L' O' w') : FMoved w M B g gO L' O' w' := by
  obtain ⟨M1, hF, hs, hK⟩ := h
  have hF2 := hF.below hb
  have hlt : ∀ k, M1 k → k < w1.heap.size := by
    obtain ⟨F, v, h0, hT, hB, hR, h1, h2, h3, h4, h5⟩ := hF
    exact h5
  obtain ⟨M2, hF3, hs3, hK3⟩ := h' M1 hF2 hs hlt
  refine ⟨M2, hF3, fun k hk => ?_, ?_⟩
  · rcases hs3 k hk with h | h
    · exact hs k h
    · exact .inr (Nat.le_trans hK.size (Nat.le_trans hb.size h))
  · have h12 : Keep M w w2 := hK.trans (Keep.new (F := M) hb) (fun _ _ h => h)
    exact h12.trans hK3 (fun i hi hm => by
      rcases hs i hm with h | h
      · exact h
      · omega)
theorem FMoved.from_ (hb : Below w.heap.size w w1) (h : FMoved w1 M B g gO L O w') : FMoved w M B g gO L O w' := by
  obtain ⟨M1, hF, hs, hK⟩ := h
  refine ⟨M1, hF, fun k hk => ?_, ((Keep.new (F := M) hb)).trans hK (fun i _ h => h)⟩
  rcases hs k hk with h | h
  · exact .inl h
  · exact .inr (Nat.le_trans hb.size h)
/-- The table moves. -/
theorem Fs.tab (h : Fs w M B g gO L O) : ∃ F, Tab w F g L ∧ ∀ L' w', Moved w F g L' w' → FMoved w M B g gO L' O w' := by
  obtain ⟨F, v, h0, hT, hB, hR, h1, h2, h3, h4, h5⟩ := h
  refine ⟨F, hT, fun L' w' hm => ?_⟩
  obtain ⟨F', hT', hs, hK⟩ := hm
  refine ⟨fun k => (M k ∨ w.heap.size ≤ k) ∧ k < w'.heap.size, ⟨F', v, ⟨Nat.le_trans h0.1 hK.size, h0.2⟩, hT', hB.keep hK h3, ownsRow_keep hR hK (fun r hr => (h4 r hr).2), fun k hk => ?_, ?_, ?_, ?_, fun k hk => hk.2⟩, fun k hk => hk.1, hK.mono (fun i _ hf => h1 i hf)⟩
  · refine ⟨?_, ?_⟩
    · rcases hs k hk with h | h
      · exact .inl (h1 k h)
      · exact .inr h
    · obtain ⟨bm, v, D, fl, _⟩ := hT'
      exact fl k hk
  · exact ⟨.inl h2, Nat.lt_of_lt_of_le (h5 _ h2) hK.size⟩
  · intro hk
    rcases hs _ hk with h | h
    · exact h3 h
    · have := h5 _ h2; omega
  · intro r hr
    have := h5 _ (h4 r hr).1
    refine ⟨⟨.inl (h4 r hr).1, Nat.lt_of_lt_of_le this hK.size⟩, fun hk => ?_⟩
    rcases hs _ hk with h | h
    · exact (h4 r hr).2 h
    · omega
/-- The row grows, and the variable holds it. -/
theorem Fs.push (h : Fs w M B g gO L O) {A A' : Option Addr} {c c' n : Nat} (hc : w.cell? ⟨gO, 0, none⟩ = some (.slice A O.length c)) (hb : Below w.heap.size w w1) (hg : w1.grownBy w2 (Value.slice A O.length c).ownBlock) (hR' : w2.ownsRow 0 49 1 (.slice A' n c') n (u64s O'))
    (hat : (Value.slice A' n c').ownBlock = (Value.slice A O.length c).ownBlock ∨ (Value.slice A' n c').ownBlock = some w1.heap.size) : FMoved w M B g gO L O' (w2.setCell ⟨gO, 0, none⟩ (.slice A' n c')) := by
  have hn : n = O'.length := by have := hR'.1; simp [u64s] at this; omega
  subst hn
  obtain ⟨F, v, h0, hT, hB, hR, h1, h2, h3, h4, h5⟩ := h
  have hv : v = .slice A O.length c := by
    have := hB.cell 0
    rw [hc] at this
    simpa using this.symm
  subst hv
  have hB1 := hB.below hb hB.lt
  have hR1 := ownsRow_below hR hb (fun r hr => h5 _ (h4 r hr).1)
  have hT1 := hT.keep (G := fun _ => False) (Keep.new hb) (fun _ _ h => h)
  have hne1 : (Value.slice A O.length c).ownBlock ≠ some gO := own_blk_ne hR hB (by decide)
  have hB2 := hB1.grown hg (fun e => hne1 e.symm)
  have hne : (Value.slice A' O'.length c').ownBlock ≠ some gO := own_blk_ne hR' hB2 (by decide)
  have hK2 : Keep M w w2 := (Keep.new (F := M) hb).grown hg (fun k hk => .inl (h4 k hk).1)
  have hz := hg.size
  have hzb := hb.size
  refine ⟨fun k => (M k ∨ w.heap.size ≤ k) ∧ k < (w2.setCell ⟨gO, 0, none⟩ (.slice A' O'.length c')).heap.size, ⟨F, .slice A' O'.length c', ⟨by have := h0.1; simp [World.setCell]; omega, fun r hr => by
    rcases hat with e | e
    · rw [e] at hr; exact h0.2 r hr
    · rw [e] at hr; injection hr with hr; have := h0.1; omega⟩, ?_, by simpa using hB2.set_ 0 (.slice A' O'.length c'), ownsRow_setCell_other hR' (a := ⟨gO, 0, none⟩) hne _, fun k hk => ?_, ?_, h3, ?_, fun k hk => hk.2⟩, fun k hk => hk.1, hK2.setCell (.inl h2) _⟩
  · have hT2 : Tab w2 F g L := hT1.grown hg (fun r hr => (h4 r hr).2)
    exact hT2.keep (G := fun b => b = gO) ((Keep.refl (fun b => b = gO) w2).setCell (p := ⟨gO, 0, none⟩) (.inl rfl) _) (fun r hr e => h3 (e ▸ hr))
  · refine ⟨.inl (h1 k hk), ?_⟩
    have := h5 _ (h1 k hk)
    simp [World.setCell]; omega
  · refine ⟨.inl h2, ?_⟩
    have := h5 _ h2
    simp [World.setCell]; omega
  · intro r hr
    have hr2 := (hR'.lt r hr).2
    rcases hat with e | e
    · rw [e] at hr
      exact ⟨⟨.inl (h4 r hr).1, by simpa [World.setCell] using hr2⟩, (h4 r hr).2⟩
    · rw [e] at hr
      injection hr with hr
      subst hr
      refine ⟨⟨.inr hzb, by simpa [World.setCell] using hr2⟩, fun hf => ?_⟩
      have := h5 _ (h1 _ hf)
      omega
/-- The variable's cell once the row has grown. -/
theorem Fs.held (h : Fs w M B g gO L O) {A : Option Addr} {c : Nat} (hc : w.cell? ⟨gO, 0, none⟩ = some (.slice A O.length c)) (hb : Below w.heap.size w w1) (hg : w1.grownBy w2 (Value.slice A O.length c).ownBlock) : w2.cell? ⟨gO, 0, none⟩ = some (.slice A O.length c) ∧ w2.frozen? ⟨gO, 0, none⟩ = false := by
  obtain ⟨F, v, h0, hT, hB, hR, h1, h2, h3, h4, h5⟩ := h
  have hv : v = .slice A O.length c := by
    have := hB.cell 0
    rw [hc] at this
    simpa using this.symm
  subst hv
  have hne1 : (Value.slice A O.length c).ownBlock ≠ some gO := own_blk_ne hR hB (by decide)
  have hB2 := (hB.below hb hB.lt).grown hg (fun e => hne1 e.symm)
  exact ⟨by rw [hB2.cell]; rfl, hB2.frozen 0⟩
/-- A word is put into the row. -/
theorem Fs.store (h : Fs w M B g gO L O) {i : Nat} (hi : i < O.length) : ∃ r c, w.cell? ⟨gO, 0, none⟩ = some (.slice (some ⟨r, 0, none⟩) O.length c) ∧ O.length ≤ c ∧ c ≤ maxLen ∧ (∃ x, w.cell? ⟨r, i, none⟩ = some x) ∧ w.frozen? ⟨r, i, none⟩ = false ∧
    ∀ y, FMoved w M B g gO L (O.set i y) (w.setCell ⟨r, i, none⟩ (.int .u64 y)) := by
  obtain ⟨F, v, h0, hT, hB, hR, h1, h2, h3, h4, h5⟩ := h
  obtain ⟨r, c, rfl, k1, k2, k3, k4, k5⟩ := ownsRow_at hR hi
  have hne : r ≠ gO := fun e => own_blk_ne hR hB (by decide) (by rw [e]; rfl)
  refine ⟨r, c, by rw [hB.cell]; rfl, k1, k2, ⟨_, k5 i (.int .u64 O[i]) (by simp [u64s, hi])⟩, hR.frozenAt i, fun y => ?_⟩
  obtain ⟨q1, q2⟩ := hR.stored i (.int .u64 y)
  have hl : (O.set i y).length = O.length := List.length_set
  have hq := (h4 r rfl)
  refine ⟨M, ⟨F, .slice (some ⟨r, 0, none⟩) O.length c, ⟨Nat.le_trans h0.1 q2.size, h0.2⟩, hT.grown q2 (fun k hk => ?_), hB.grown q2 (fun e => hne (by injection e with e; exact e.symm)), ?_, h1, h2, h3, h4, fun k hk => Nat.lt_of_lt_of_le (h5 k hk) q2.size⟩, fun k hk => .inl hk, (Keep.refl M w).setCell (.inl hq.1) _⟩
  · injection hk with hk
    subst hk
    exact hq.2
  · rw [hl]
    unfold u64s at q1 ⊢
    rwa [List.map_set]
end
/-- The closure's variables. -/
def FVars (w : World) (M : Nat → Prop) (B g gO gA gL : Nat) : Prop :=
  w.cell? ⟨gA, 0, none⟩ = some (.pointer (some ⟨g, 0, none⟩)) ∧ w.cell? ⟨gL, 0, none⟩ = some (.func (.func 37) #[] #[.pointer (some ⟨gO, 0, none⟩), .pointer (some ⟨gA, 0, none⟩), .pointer (some ⟨gL, 0, none⟩)]) ∧ ¬ M gA ∧ ¬ M gL
theorem FVars.keep {w w' : World} {M M' : Nat → Prop} {B g gO gA gL : Nat} (h : FVars w M B g gO gA gL) (hk : Keep M w w') (hs : ∀ k, M' k → M k ∨ w.heap.size ≤ k) : FVars w' M' B g gO gA gL := by
  obtain ⟨a, b, c, d⟩ := h
  have ha := World.block_lt_of_cell? _ _ a
  have hb := World.block_lt_of_cell? _ _ b
  exact ⟨(hk.cell ha c).trans a, (hk.cell hb d).trans b, fun h => by rcases hs _ h with h | h; exact c h; exact absurd ha (by simp; omega), fun h => by rcases hs _ h with h | h; exact d h; exact absurd hb (by simp; omega)⟩
end Go.Proofs.Ytfcialleekfjmaa.Fl
