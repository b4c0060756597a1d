/- ArenaKnown's helpers: what an arena of our own answers, with its words made anew. -/
import Derived.Test.YtnanacokclcbfaaArenaS
import Derived.Test.YtnanacokclcbfaaBlocks
import Derived.Test.YtnanacokclcbfaaSameInts
namespace Go.Proofs.Ytnanacokclcbfaa.Ar
open Go.RowKit K
set_option linter.unusedVariables false
set_option linter.unusedSimpArgs false

section
variable {B0 : Nat} {w0 w w' : World} {g all n : Nat} {B : Bks}
theorem drop_st (hS : St B0 w0 g all n B w) (k : Int) (hk : (Lit.int .i64 k).wf = true) (E : Int) (B' : Bks) (hE : gtE B k = E) (hB : dpB B k = B') :
    Calls Try.prog 15 #[.pointer (some ⟨g, 0, none⟩), .int .i64 k] w fun e w' => e = .returned (.int .i64 E) ∧ St B0 w0 g all n B' w' := by
  obtain ⟨b1, b2, F, hT, hF⟩ := hS
  subst hE hB
  exact (drop_any g all n B k w F hT hk).mono fun e w' ⟨he, hm⟩ => ⟨he, St.moved b1 b2 hF hm⟩
theorem get_st (hS : St B0 w0 g all n B w) (k : Int) (hk : (Lit.int .i64 k).wf = true) (E : Int) (ws : List Int) (hE : gtE B k = E) (hws : gtL B k = ws) :
    Calls Try.prog 18 #[.pointer (some ⟨g, 0, none⟩), .int .i64 k] w (GtPost w E ws) := by
  obtain ⟨b1, b2, F, hT, hF⟩ := hS
  subst hE hws
  exact get_any g all n B k w F hT hk
theorem blocks_st (hS : St B0 w0 g all n B w) (hn : n ≤ 1099511627776) : Calls Try.prog 17 #[.pointer (some ⟨g, 0, none⟩)] w (Ks.RowPost w (blks B)) := by
  obtain ⟨b1, b2, F, hT, hF⟩ := hS
  exact blocks_any g all n B w F hT hn
theorem used_st (hS : St B0 w0 g all n B w) (y : Int) (hy : (used B : Int) = y) : Calls Try.prog 23 #[.pointer (some ⟨g, 0, none⟩)] w fun e w' => e = .returned (.int .i64 y) ∧ w = w' := by
  obtain ⟨b1, b2, F, hT, hF⟩ := hS
  subst hy
  exact used_any g all n B w F hT
/-- Take of so many zeros that were made just now, in the world that the making leaves. -/
theorem take_made (hS : St B0 w0 g all n B w) (m : Nat) (hm : m ≤ maxLen) (hn : n < 1099511627776) (N E : Int) (B' : Bks) (hN : tkN all B m = N) (hE : tkE all B m = E) (hB : tkB all B (List.replicate m 0) = B') :
    Calls Try.prog 14 #[.pointer (some ⟨g, 0, none⟩), .slice (some ⟨w.heap.size, 0, none⟩) m m] (w.alloc (.cells (madeCells #[Value.int .u64 0] m) 68)) fun e w' => e = .returned (.tuple #[.int .i64 N, .int .i64 E]) ∧ St B0 w0 g all (n + 1) B' w' := by
  obtain ⟨b1, b2, F, hT, hF⟩ := hS
  subst hN hE hB
  have hg : g < w.heap.size := hT.lt g hT.choose_spec.choose_spec.2.1
  have hlen : (List.replicate m (0 : Int)).length = m := by simp
  have hK : Keep (fun k => w.heap.size ≤ k) w (w.alloc (.cells (madeCells #[Value.int .u64 0] m) 68)) := (Keep.refl _ _).alloc _
  have HT := take_any g all n B (some ⟨w.heap.size, 0, none⟩) m (List.replicate m 0) (w.alloc (.cells (madeCells #[Value.int .u64 0] m) 68)) F (hT.keep hK (fun r hr hs => by have := hT.lt r hr; omega)) (by rw [hlen]; exact made_reads w m hm) (by simp) (by intro ad had; injection had with had; subst had; simp; omega) (by rw [hlen]; exact hm) hn
  rw [hlen] at HT
  unfold TkPost at HT
  rw [hlen] at HT
  exact HT.mono fun e w' ⟨he, hm2⟩ => ⟨he, St.moved (b1.alloc b2 _) (by simp; omega) hF hm2⟩
theorem set_made (hS : St B0 w0 g all n B w) (k : Int) (hk : (Lit.int .i64 k).wf = true) (m : Nat) (hm : m ≤ maxLen) (hn : n < 1099511627776) (E : Int) (B' : Bks) (hE : stE B k m = E) (hB : stB B k (List.replicate m 0) = B') :
    Calls Try.prog 19 #[.pointer (some ⟨g, 0, none⟩), .int .i64 k, .slice (some ⟨w.heap.size, 0, none⟩) m m] (w.alloc (.cells (madeCells #[Value.int .u64 0] m) 68)) fun e w' => e = .returned (.int .i64 E) ∧ St B0 w0 g all (n + 1) B' w' := by
  obtain ⟨b1, b2, F, hT, hF⟩ := hS
  subst hE hB
  have hlen : (List.replicate m (0 : Int)).length = m := by simp
  have hK : Keep (fun k => w.heap.size ≤ k) w (w.alloc (.cells (madeCells #[Value.int .u64 0] m) 68)) := (Keep.refl _ _).alloc _
  have HT := set_any g all n B k (some ⟨w.heap.size, 0, none⟩) m (List.replicate m 0) (w.alloc (.cells (madeCells #[Value.int .u64 0] m) 68)) F (hT.keep hK (fun r hr hs => by have := hT.lt r hr; omega)) hk (by rw [hlen]; exact made_reads w m hm) (by simp) (by rw [hlen]; exact hm) hn
  rw [hlen] at HT
  exact HT.mono fun e w' ⟨he, hm2⟩ => ⟨he, St.moved (b1.alloc b2 _) (by simp; omega) hF hm2⟩
end
theorem make_eq (m : Nat) (hm : m ≤ 16777216) (mI : Int) (h : mI = (m : Int)) (w : World) :
    (Instr.makeSlice 32 (.int .i64 mI) (.int .i64 mI)).run Try.prog w = .ok (.slice (some ⟨w.heap.size, 0, none⟩) m m) (w.alloc (.cells (madeCells #[Value.int .u64 0] m) 68)) := by
  subst h
  exact run_make_row' (P := Try.prog) 32 68 (.int .u64 0) 8 Try.underlying32 infoU64' rfl .i64 .i64 m (by omega) (by omega) w
theorem pair_reads (w : World) (a b : Int) : Reads (w.alloc (.cells #[.int .i64 a, .int .i64 b] 3)) (w.alloc (.cells #[.int .i64 a, .int .i64 b] 3)).heap.size 1 (some ⟨w.heap.size, 0, none⟩) [a, b].length ([a, b].map (Value.int .i64)) :=
  Reads.of_own (World.ownsRow_lit (e := 3) (size := 1) (base := 0) w #[.int .i64 a, .int .i64 b] 2 (Nat.zero_le _) (by unfold maxLen; omega) rfl)
end Go.Proofs.Ytnanacokclcbfaa.Ar
