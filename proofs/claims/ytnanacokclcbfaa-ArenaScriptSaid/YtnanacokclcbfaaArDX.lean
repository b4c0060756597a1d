/- Both arenas, apart from each other; their calls by contracts over them. -/
import Derived.Test.YtnanacokclcbfaaArLent
namespace Go.Proofs.Ytnanacokclcbfaa.Ar
open Go.RowKit K
set_option linter.unusedVariables false
set_option linter.unusedSimpArgs false

/-- The program's arena and the document's; blocks in X are others', and lie as in w0. -/
def DA (X : Nat → Prop) (w0 : World) (g all n h : Nat) (Ba Bb : Bks) (W : World) : Prop :=
  Keep (fun k => ¬ X k) w0 W ∧ (∀ k, X k → k < w0.heap.size) ∧ ∃ F G, AR W F g all n Ba ∧ RAr W G h all Bb ∧ (∀ k, F k → ¬ X k) ∧ (∀ k, G k → ¬ X k) ∧ (∀ k, F k → ¬ G k)
section
variable {X X' : Nat → Prop} {w0 W W1 W2 : World} {g all n n' h : Nat} {Ba Bb Ba' Bb' B : Bks} {F G : Nat → Prop}
theorem DA.left (hb : Keep (fun k => ¬ X k) w0 W) (hX : ∀ k, X k → k < w0.heap.size) (hR : RAr W G h all Bb) (hF : ∀ k, F k → ¬ X k) (hG : ∀ k, G k → ¬ X k) (hd : ∀ k, F k → ¬ G k) (hm : Moved W F g all n' Ba' W1) : DA X w0 g all n' h Ba' Bb W1 := by
  obtain ⟨F', h1, h2, h3⟩ := hm
  refine ⟨hb.trans h3 (fun i _ hi => hF i hi), hX, F', G, h1, hR.keep h3 (fun r hr hf => hd r hf hr), fun k hk hx => ?_, hG, fun k hk hg => ?_⟩
  · rcases h2 k hk with h | h
    · exact hF k h hx
    · have := hX k hx; have := hb.size; omega
  · rcases h2 k hk with h | h
    · exact hd k h hg
    · have := hR.lt k hg; omega
theorem DA.right (hb : Keep (fun k => ¬ X k) w0 W) (hX : ∀ k, X k → k < w0.heap.size) (hA : AR W F g all n Ba) (hF : ∀ k, F k → ¬ X k) (hG : ∀ k, G k → ¬ X k) (hd : ∀ k, F k → ¬ G k) (hm : RMoved W G h all Bb' W1) : DA X w0 g all n h Ba Bb' W1 := by
  obtain ⟨G', h1, h2, h3⟩ := hm
  refine ⟨hb.trans h3 (fun i _ hi => hG i hi), hX, F, G', hA.keep h3 (fun r hr hf => hd r hr hf), h1, hF, fun k hk hx => ?_, fun k hk hg => ?_⟩
  · rcases h2 k hk with h | h
    · exact hG k h hx
    · have := hX k hx; have := hb.size; omega
  · rcases h2 k hg with h | h
    · exact hd k hk h
    · have := hA.lt k hk; omega
theorem DA.keep (hD : DA X w0 g all n h Ba Bb W) (hk : Keep (fun k => X' k) W W1) (hX : ∀ k, X' k → W.heap.size ≤ k) : DA X w0 g all n h Ba Bb W1 := by
  obtain ⟨h1, h2, F, G, hA, hR, hF, hG, hd⟩ := hD
  refine ⟨h1.trans hk (fun i _ hi hx => ?_), h2, F, G, hA.keep hk (fun r hr hx => ?_), hR.keep hk (fun r hr hx => ?_), hF, hG, hd⟩
  · have := h2 i hx; have := h1.size; have := hX i hi; omega
  · have := hA.lt r hr; have := hX r hx; omega
  · have := hR.lt r hr; have := hX r hx; omega
theorem DA.later (hD : DA X w0 g all n h Ba Bb W) (hb : Below W.heap.size W W1) : DA X w0 g all n h Ba Bb W1 := hD.keep (X' := fun _ => False) (Keep.new hb) (fun _ h => h.elim)
theorem DA.drewN (hD : DA X w0 g all n h Ba Bb W) (d : Nat) : DA X w0 g all n h Ba Bb (W.drewN d) := hD.later ⟨rfl, rfl, rfl, Nat.le_refl _, fun _ _ => rfl⟩
theorem DA.drew (hD : DA X w0 g all n h Ba Bb W) : DA X w0 g all n h Ba Bb W.drew := hD.later ⟨rfl, rfl, rfl, Nat.le_refl _, fun _ _ => rfl⟩
theorem DA.more (hD : DA X w0 g all n h Ba Bb W) (hn : n ≤ n') : DA X w0 g all n' h Ba Bb W := by
  obtain ⟨h1, h2, F, G, hA, r⟩ := hD
  exact ⟨h1, h2, F, G, hA.more hn, r⟩
theorem DA.below {B0 : Nat} (hD : DA (· < B0) w0 g all n h Ba Bb W) (hB : B0 ≤ w0.heap.size) : Below B0 w0 W := hD.1.to_below hB (fun i _ hi => by omega)
theorem DA.cell (hD : DA X w0 g all n h Ba Bb W) {p : Addr} (hp : X p.block) : W.cell? p = w0.cell? p := hD.1.cell (hD.2.1 _ hp) (fun hn => hn hp)
/-- Blocks that are new are told of now. -/
theorem DA.base (hD : DA X w0 g all n h Ba Bb W) (hb : Below W.heap.size W W1) (hX : ∀ k, X' k → W.heap.size ≤ k ∧ k < W1.heap.size) : DA (fun k => X' k ∨ X k) W1 g all n h Ba Bb W1 := by
  obtain ⟨h1, h2, F, G, hA, hR, hF, hG, hd⟩ := hD
  refine ⟨Keep.refl _ _, fun k hk => ?_, F, G, hA.keep (F := F) (G := fun _ => False) (Keep.new hb) (fun _ _ h => h), hR.keep (F := fun _ => False) (Keep.new hb) (fun _ _ h => h), fun k hk hx => ?_, fun k hk hx => ?_, hd⟩
  · rcases hk with h | h
    · exact (hX k h).2
    · have := h2 k h; have := h1.size; have := hb.size; omega
  · rcases hx with h | h
    · have := hA.lt k hk; have := (hX k h).1; omega
    · exact hF k hk h
  · rcases hx with h | h
    · have := hR.lt k hk; have := (hX k h).1; omega
    · exact hG k hk h
/-- .. and no more; they may turn. -/
theorem DA.done {W3 : World} (hD : DA X w0 g all n h Ba Bb W) (hb : Below W.heap.size W W1) (hX : ∀ k, X' k → W.heap.size ≤ k ∧ k < W1.heap.size) (h2 : DA (fun k => X' k ∨ X k) W1 g all n' h Ba' Bb' W2) (hk : Keep X' W2 W3) : DA X w0 g all n' h Ba' Bb' W3 := by
  obtain ⟨a1, a2, _⟩ := hD
  obtain ⟨b1, b2, F, G, hA, hR, hF, hG, hd⟩ := h2
  have hk0 : Keep (fun k => ¬ X k) w0 W2 := (a1.trans (Keep.new (F := fun _ => False) hb) (fun _ _ h => h.elim)).trans b1 (fun k _ hk hx => hk (.inr hx))
  exact ⟨hk0.trans hk (fun k _ hx hx2 => by have := a2 k hx2; have := a1.size; have := (hX k hx).1; omega), a2, F, G, hA.keep hk (fun r hr hx => hF r hr (.inl hx)), hR.keep hk (fun r hr hx => hG r hr (.inl hx)), fun k hk hx => hF k hk (.inr hx), fun k hk hx => hG k hk (.inr hx), hd⟩
/-- How great. -/
def OkA (all n : Nat) (B : Bks) : Prop := LenOk B ∧ used B ≤ all ∧ all ≤ 16777216 ∧ B.length ≤ n
theorem DA.ok (hD : DA X w0 g all n h Ba Bb W) : OkA all n Ba := by
  obtain ⟨h1, h2, F, G, ⟨bm, D, fl, fg, fm, hB, hM, hDm, q1, q2, q3, q4⟩, _⟩ := hD
  exact ⟨q4, q2, q1, q3⟩
theorem a_take (hD : DA X w0 g all n h Ba Bb W) (A : Option Addr) (c : Nat) (ws : List Int) (hx : Reads W W.heap.size 1 A ws.length (wds ws)) (hA : A = none → c = 0) (hAX : ∀ ad, A = some ad → X ad.block) (hl : ws.length ≤ maxLen) (hn : n < 1099511627776) :
    Calls Try.prog 14 #[.pointer (some ⟨g, 0, none⟩), .slice A ws.length c] W fun e w' => e = .returned (.tuple #[.int .i64 (tkN all Ba ws.length), .int .i64 (tkE all Ba ws.length)]) ∧ DA X w0 g all (n + 1) h (tkB all Ba ws) Bb w' := by
  obtain ⟨h1, h2, F, G, hA', hR, hF, hG, hd⟩ := hD
  have hg : F g := by obtain ⟨bm, D, fl, fg, _⟩ := hA'; exact fg
  exact (take_any g all n Ba A c ws W F hA' hx hA (fun ad e hg2 => hF g hg (hg2 ▸ hAX ad e)) hl hn).mono fun e w' hp => ⟨hp.1, DA.left h1 h2 hR hF hG hd hp.2⟩
theorem b_take (hD : DA X w0 g all n h Ba Bb W) (hO : OkA all n' Bb) (hn : n' ≤ 60000) (A : Option Addr) (c : Nat) (ws : List Int) (hx : Reads W W.heap.size 1 A ws.length (wds ws)) (hl : ws.length ≤ 65536) :
    Calls Try.prog 33 #[.pointer (some ⟨h, 0, none⟩), .slice A ws.length c] W fun e w' => e = .returned (.tuple #[.int .i64 (tkN all Bb ws.length), .int .i64 (tkE all Bb ws.length)]) ∧ DA X w0 g all n h Ba (tkB all Bb ws) w' := by
  obtain ⟨h1, h2, F, G, hA', hR, hF, hG, hd⟩ := hD
  obtain ⟨o1, o2, o3, o4⟩ := hO
  exact (rtake_any hR o1 (by omega) o2 o3 A c ws hx hl).mono fun e w' hp => ⟨hp.1, DA.right h1 h2 hA' hF hG hd hp.2⟩
theorem a_get (hD : DA X w0 g all n h Ba Bb W) (k : Int) (hk : (Lit.int .i64 k).wf = true) : Calls Try.prog 18 #[.pointer (some ⟨g, 0, none⟩), .int .i64 k] W (GtPost W (gtE Ba k) (gtL Ba k)) := by
  obtain ⟨h1, h2, F, G, hA', hR, hF, hG, hd⟩ := hD
  exact get_any g all n Ba k W F hA' hk
theorem b_get (hD : DA X w0 g all n h Ba Bb W) (hO : OkA all n' Bb) (hn : n' ≤ 60000) (k : Int) (hk : (Lit.int .i64 k).wf = true) : Calls Try.prog 34 #[.pointer (some ⟨h, 0, none⟩), .int .i64 k] W (GetR W (gtE Bb k) (gtL Bb k)) := by
  obtain ⟨h1, h2, F, G, hA', hR, hF, hG, hd⟩ := hD
  obtain ⟨o1, o2, o3, o4⟩ := hO
  exact rget_any hR k hk (by omega)
theorem a_set (hD : DA X w0 g all n h Ba Bb W) (k : Int) (hk : (Lit.int .i64 k).wf = true) (A : Option Addr) (c : Nat) (ws : List Int) (hx : Reads W W.heap.size 1 A ws.length (wds ws)) (hA : A = none → c = 0) (hl : ws.length ≤ maxLen) (hn : n < 1099511627776) :
    Calls Try.prog 19 #[.pointer (some ⟨g, 0, none⟩), .int .i64 k, .slice A ws.length c] W fun e w' => e = .returned (.int .i64 (stE Ba k ws.length)) ∧ DA X w0 g all (n + 1) h (stB Ba k ws) Bb w' := by
  obtain ⟨h1, h2, F, G, hA', hR, hF, hG, hd⟩ := hD
  exact (set_any g all n Ba k A c ws W F hA' hk hx hA hl hn).mono fun e w' hp => ⟨hp.1, DA.left h1 h2 hR hF hG hd hp.2⟩
theorem b_set (hD : DA X w0 g all n h Ba Bb W) (hO : OkA all n' Bb) (hn : n' ≤ 60000) (k : Int) (hk : (Lit.int .i64 k).wf = true) (A : Option Addr) (c : Nat) (ws : List Int) (hx : Reads W W.heap.size 1 A ws.length (wds ws)) (hl : ws.length ≤ 65536) :
    Calls Try.prog 36 #[.pointer (some ⟨h, 0, none⟩), .int .i64 k, .slice A ws.length c] W fun e w' => e = .returned (.int .i64 (stE Bb k ws.length)) ∧ DA X w0 g all n h Ba (stB Bb k ws) w' := by
  obtain ⟨h1, h2, F, G, hA', hR, hF, hG, hd⟩ := hD
  obtain ⟨o1, o2, o3, o4⟩ := hO
  exact (rset_any hR o1 (by omega) k hk A c ws hx hl).mono fun e w' hp => ⟨hp.1, DA.right h1 h2 hA' hF hG hd hp.2⟩
theorem a_drop (hD : DA X w0 g all n h Ba Bb W) (k : Int) (hk : (Lit.int .i64 k).wf = true) : Calls Try.prog 15 #[.pointer (some ⟨g, 0, none⟩), .int .i64 k] W fun e w' => e = .returned (.int .i64 (gtE Ba k)) ∧ DA X w0 g all n h (dpB Ba k) Bb w' := by
  obtain ⟨h1, h2, F, G, hA', hR, hF, hG, hd⟩ := hD
  exact (drop_any g all n Ba k W F hA' hk).mono fun e w' hp => ⟨hp.1, DA.left h1 h2 hR hF hG hd hp.2⟩
theorem b_drop (hD : DA X w0 g all n h Ba Bb W) (hO : OkA all n' Bb) (hn : n' ≤ 60000) (k : Int) (hk : (Lit.int .i64 k).wf = true) : Calls Try.prog 37 #[.pointer (some ⟨h, 0, none⟩), .int .i64 k] W fun e w' => e = .returned (.int .i64 (gtE Bb k)) ∧ DA X w0 g all n h Ba (dpB Bb k) w' := by
  obtain ⟨h1, h2, F, G, hA', hR, hF, hG, hd⟩ := hD
  obtain ⟨o1, o2, o3, o4⟩ := hO
  exact (rdrop_any hR (by omega) k hk).mono fun e w' hp => ⟨hp.1, DA.right h1 h2 hA' hF hG hd hp.2⟩
theorem a_used (hD : DA X w0 g all n h Ba Bb W) : Calls Try.prog 23 #[.pointer (some ⟨g, 0, none⟩)] W fun e w' => e = .returned (.int .i64 (used Ba : Int)) ∧ W = w' := by
  obtain ⟨h1, h2, F, G, hA', hR, hF, hG, hd⟩ := hD
  exact used_any g all n Ba W F hA'
theorem b_used (hD : DA X w0 g all n h Ba Bb W) (hO : OkA all n' Bb) (hn : n' ≤ 60000) : Calls Try.prog 39 #[.pointer (some ⟨h, 0, none⟩)] W fun e w' => e = .returned (.int .i64 (used Bb : Int)) ∧ W = w' := by
  obtain ⟨h1, h2, F, G, hA', hR, hF, hG, hd⟩ := hD
  obtain ⟨o1, o2, o3, o4⟩ := hO
  exact rused_any hR o1 (by omega) (by omega)
theorem a_left (hD : DA X w0 g all n h Ba Bb W) : Calls Try.prog 22 #[.pointer (some ⟨g, 0, none⟩)] W fun e w' => e = .returned (.int .i64 ((all : Int) - (used Ba : Int))) ∧ ∃ k, w' = W.drewN k := by
  obtain ⟨h1, h2, F, G, hA', hR, hF, hG, hd⟩ := hD
  exact left_any g all n Ba W F hA'
theorem a_blocks (hD : DA X w0 g all n h Ba Bb W) (hn : n ≤ 1099511627776) : Calls Try.prog 17 #[.pointer (some ⟨g, 0, none⟩)] W (Ks.RowPost W (blks Ba)) := by
  obtain ⟨h1, h2, F, G, hA', hR, hF, hG, hd⟩ := hD
  exact blocks_any g all n Ba W F hA' hn
theorem b_blocks (hD : DA X w0 g all n h Ba Bb W) (hO : OkA all n' Bb) (hn : n' ≤ 60000) : Calls Try.prog 40 #[.pointer (some ⟨h, 0, none⟩)] W (Ks.RowPost W (blks Bb)) := by
  obtain ⟨h1, h2, F, G, hA', hR, hF, hG, hd⟩ := hD
  obtain ⟨o1, o2, o3, o4⟩ := hO
  exact rblocks_any hR (by omega)
theorem b_words (hD : DA X w0 g all n h Ba Bb W) : h < W.heap.size ∧ W.cell? ⟨h, 0, none⟩ = some (.int .i64 (all : Int)) := by
  obtain ⟨h1, h2, F, G, hA', hR, hF, hG, hd⟩ := hD
  exact ⟨hR.cells.1, hR.cells.2.1⟩
end
theorem btodrew {B : Nat} {w w' : World} (h : Below B w w') : Below B w w'.drew := ⟨h.os, h.tape, h.output, h.size, h.block⟩
theorem bnext {w0 w w' : World} (h : Below w0.heap.size w0 w) (h' : Below w.heap.size w w') : Below w0.heap.size w0 w' := h.trans (h'.mono h.size)
theorem bdrewN {B : Nat} {w w' : World} (h : Below B w w') (d : Nat) : Below B w (w'.drewN d) := ⟨h.os, h.tape, h.output, h.size, h.block⟩
end Go.Proofs.Ytnanacokclcbfaa.Ar
