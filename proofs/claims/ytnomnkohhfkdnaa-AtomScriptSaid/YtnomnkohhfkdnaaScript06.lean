/- The helpers of AtomScript: both tables beside each other; sameTexts, tells. -/
import Derived.Test.YtnomnkohhfkdnaaRefAtomI
import Derived.Test.YtnomnkohhfkdnaaPick
namespace Go.Proofs.Ytnomnkohhfkdnaa.At
open Go.RowKit K
set_option linter.unusedVariables false
set_option linter.unusedSimpArgs false

/-- Both tables, from block B on, apart; the same atoms. -/
def StR (B : Nat) (w0 : World) (g h : Nat) (L : List ByteArray) (w : World) : Prop :=
  Below B w0 w ∧ B ≤ w.heap.size ∧ ∃ F G : Nat → Prop, Tab w F g L ∧ RTab w G h L ∧ (∀ k, F k → B ≤ k) ∧ (∀ k, G k → B ≤ k) ∧ ∀ k, F k → ¬ G k
theorem Tab.lt {w : World} {F : Nat → Prop} {g : Nat} {L : List ByteArray} (h : Tab w F g L) : ∀ k, F k → k < w.heap.size := by
  obtain ⟨bm, v, D, fl, _⟩ := h; exact fl
theorem RTab.lt {w : World} {F : Nat → Prop} {g : Nat} {L : List ByteArray} (h : RTab w F g L) : ∀ k, F k → k < w.heap.size := by
  obtain ⟨v, fl, _⟩ := h; exact fl
theorem StR.grown {B : Nat} {w0 w w' : World} {g h : Nat} {L : List ByteArray} (hS : StR B w0 g h L w) (hb : Below w.heap.size w w') : StR B w0 g h L w' := by
  obtain ⟨h1, h2, F, G, hT, hR, hF, hG, hd⟩ := hS
  have hk : Keep (fun k => w.heap.size ≤ k) w w' := Keep.new hb
  exact ⟨h1.trans (hb.mono h2), Nat.le_trans h2 hb.size, F, G, hT.keep hk (fun r hr hs => by have := hT.lt r hr; omega), hR.keep hk (fun r hr hs => by have := hR.lt r hr; omega), hF, hG, hd⟩
theorem StR.intern {B : Nat} {w0 w : World} {g h : Nat} {L : List ByteArray} (hS : StR B w0 g h L w) (s : ByteArray) (hs : s.size ≤ maxLen) :
    Calls Try.prog 12 #[.pointer (some ⟨g, 0, none⟩), .string s] w fun e w' => e = .returned (.tuple #[.int .i64 (inN L s), .int .i64 (inE L s)]) ∧ Below B w0 w' ∧
      Calls Try.prog 17 #[.pointer (some ⟨h, 0, none⟩), .string s] w' fun e w'' => e = .returned (.tuple #[.int .i64 (inN L s), .int .i64 (inE L s)]) ∧ StR B w0 g h (inL L s) w'' := by
  obtain ⟨h1, h2, F, G, hT, hR, hF, hG, hd⟩ := hS
  refine (intern_any g L s w F hT hs).mono fun e w1 ⟨he, F', hT', hF', hK⟩ => ⟨he, hK.below h1 h2 (fun i hi hf => by have := hF i hf; omega), ?_⟩
  have hR1 : RTab w1 G h L := hR.keep hK (fun r hr hf => hd r hf hr)
  have hb1 : Below B w0 w1 := hK.below h1 h2 (fun i hi hf => by have := hF i hf; omega)
  have hB1 : B ≤ w1.heap.size := Nat.le_trans h2 hK.size
  have hFB : ∀ k, F' k → B ≤ k := fun k hk => by
    rcases hF' k hk with h | h
    · exact hF k h
    · omega
  have hd1 : ∀ k, F' k → ¬ G k := fun k hk hg => by
    rcases hF' k hk with h | h
    · exact hd k h hg
    · have := hR.lt k hg; omega
  refine (rintern_any h L s w1 G hR1 hs).mono fun e w2 ⟨he2, G', hR2, hG', hK2⟩ => ⟨he2, hK2.below hb1 hB1 (fun i hi hf => by have := hG i hf; omega), Nat.le_trans hB1 hK2.size, F', G', hT'.keep hK2 hd1, hR2, hFB, fun k hk => ?_, fun k hk hg => ?_⟩
  · rcases hG' k hk with h | h
    · exact hG k h
    · omega
  · rcases hG' k hg with h | h
    · exact hd1 k hk h
    · have := hT'.lt k hk; omega

theorem StR.made {w w1 : World} {g : Nat} (hT : Tab w1 (fun k => w.heap.size ≤ k ∧ k < w1.heap.size) g []) (hb : Below w.heap.size w w1) :
    StR w.heap.size w g w1.heap.size [] (w1.alloc (.cells #[.slice none 0 0] 43)) := by
  have hk : Keep (fun k => w1.heap.size ≤ k) w1 (w1.alloc (.cells #[.slice none 0 0] 43)) := (Keep.refl _ _).alloc _
  refine ⟨hb.alloc hb.size _, by have := hb.size; simp; omega, _, fun k => k = w1.heap.size, hT.keep hk (fun r hr hs => by omega), ⟨.slice none 0 0, fun k hk => by simp [hk], rfl, by simp [Value.ownBlock], Blk.new _ _ _, ?_, by simp, by simp, by simp [bytesOf]⟩, fun k hk => hk.1, fun k hk => by have := hb.size; omega, fun k hk hg => by omega⟩
  exact ⟨by simp, .inl ⟨rfl, rfl⟩⟩

set_option maxRecDepth 100000 in
set_option maxHeartbeats 4000000 in
theorem sameTexts_yes (A A' : Option Addr) (c c' B B' : Nat) (xs : List ByteArray) (w : World) (h : Reads w B 1 A xs.length (xs.map Value.string)) (h' : Reads w B' 1 A' xs.length (xs.map Value.string)) (hl : xs.length ≤ 4096) :
    Calls Try.prog 23 #[.slice A xs.length c, .slice A' xs.length c'] w fun e w' => e = .returned (.bool true) ∧ ∃ n, w' = w.drewN n := by
  go_enter Try.func23, Try.ntmps23
  go_wp2_with fail
  go_loopw [5] (fun i wr => ∃ k : Nat, k ≤ xs.length ∧ i = .int .i64 (k : Int) ∧ ∃ n, wr = w.drewN n) (fun i _ => xs.length - (intOf i).toNat)
  case atStart => exact ⟨0, Nat.zero_le _, rfl, 0, rfl⟩
  case round =>
    obtain ⟨k, hk, rfl, n, rfl⟩ := hrel
    by_cases hlt : k < xs.length
    · obtain ⟨ad, u, rfl, _, hu, hc⟩ := h.at_ hlt
      obtain ⟨ad', u', rfl, _, hu', hc'⟩ := h'.at_ hlt
      rw [List.getElem?_map, List.getElem?_eq_getElem hlt] at hu hu'
      injection hu with hu
      injection hu' with hu'
      subst hu; subst hu'
      obtain ⟨s, hs⟩ : ∃ s, xs[k] = s := ⟨_, rfl⟩
      rw [hs] at hc hc'
      clear hs h h'
      go_wp2_with fail
      go_quiet (fail)
      go_wp2_with fail
      go_roundw
      case rel => exact ⟨k + 1, by omega, by go_num, _, rfl⟩
      case measure => simp [intOf]; omega
    · clear h h'
      go_wp2_with fail
      go_ret
      exact ⟨ret1_b rfl, n, rfl⟩
end Go.Proofs.Ytnomnkohhfkdnaa.At
