/- tenurelaw02.two: [1, 2]. -/
import Derived.Test.YtiknelmaepkdkaaTmMake
namespace Go.Proofs.Ytiknelmaepkdkaa.K
open Go.RowKit
set_option linter.unusedVariables false
set_option linter.unusedSimpArgs false

def twoT : Tm := tlist [tnum 1, tnum 2] tnil
/-- A row of two terms just made, of blocks at or behind B. -/
theorem lit2 {w : World} {F : Nat → Prop} {a b : Tm} {k n : Int} {s : ByteArray} {A : Option Addr} {m c : Nat} {k' n' : Int} {s' : ByteArray} {A' : Option Addr} {m' c' : Nat} (ha : TAt w F a (.agg #[.int .i64 k, .int .i64 n, .string s, .slice A m c])) (hb : TAt w F b (.agg #[.int .i64 k', .int .i64 n', .string s', .slice A' m' c'])) (hF : ∀ b, F b → b < w.heap.size) :
    TsAt (w.alloc (.cells #[.int .i64 k, .int .i64 n, .string s, .slice A m c, .int .i64 k', .int .i64 n', .string s', .slice A' m' c'] 24)) (fun b => F b ∨ b = w.heap.size) (some ⟨w.heap.size, 0, none⟩) [a, b] :=
  lit_rowF (vs := [_, _]) (.cons ha (.cons hb .nil)) hF (by simp [maxLen]) _ rfl
theorem leafF (w : World) {F : Nat → Prop} (k n : Int) (s : ByteArray) (hk : (Lit.int .i64 k).wf = true) (hn : (Lit.int .i64 n).wf = true) (hs : s.size ≤ maxLen) : TAt w F (.mk k n s []) (.agg #[.int .i64 k, .int .i64 n, .string s, .slice none 0 0]) :=
  TAt.of (t := .mk k n s []) ⟨hk, hn, hs, Nat.le_refl _, by simp [maxLen], fun _ => rfl⟩ (TsAt.nil _ _ _)
theorem num_leaf (w : World) {F : Nat → Prop} (n : Int) (hn : (Lit.int .i64 n).wf = true) : TAt w F (tnum n) (.agg #[.int .i64 1, .int .i64 n, .string ⟨#[]⟩, .slice none 0 0]) := leafF w 1 n .empty (by decide) hn (by decide)
theorem nil_leaf (w : World) {F : Nat → Prop} : TAt w F tnil (.agg #[.int .i64 8, .int .i64 0, .string ⟨#[]⟩, .slice none 0 0]) := leafF w 8 0 .empty (by decide) (by decide) (by decide)
theorem sym_leaf (w : World) {F : Nat → Prop} (s : ByteArray) (hs : s.size ≤ maxLen) : TAt w F (tsym s) (.agg #[.int .i64 2, .int .i64 0, .string s, .slice none 0 0]) := leafF w 2 0 s (by decide) (by decide) hs
set_option maxRecDepth 100000 in
set_option maxHeartbeats 4000000 in
theorem two_any (w : World) : Calls Try.prog 35 #[] w (Told w twoT) := by
  have HN := Lib.hid (fun n w => num_val n w)
  have HO := Lib.hid (fun w => none_val w)
  go_enter Try.func35, Try.ntmps35
  go_wp2_with fail
  refine (HN.out _ _).mono ?_
  rintro e w1 ⟨rfl, hb1⟩
  have HB1 := Lib.hid hb1
  clear hb1
  go_wp2_with fail
  refine (HN.out _ _).mono ?_
  rintro e w2 ⟨rfl, hb2⟩
  have HB2 := Lib.hid hb2
  clear hb2
  go_wp2_with fail
  refine (HO.out _).mono ?_
  rintro e w3 ⟨rfl, hb3⟩
  have HB3 := Lib.hid hb3
  clear hb3
  go_wp2_with fail
  have hz1 := HB1.out.size
  have hz2 := HB2.out.size
  have hz3 := HB3.out.size
  rw [World.size_alloc] at hz1 hz3
  have hrow : TsAt w3 (fun b => b = w2.heap.size) (some ⟨w2.heap.size, 0, none⟩) [tnum 1, tnum 2] := by
    have h0 := lit2 (w := w2) (F := fun _ => False) (num_leaf w2 1 (by decide)) (num_leaf w2 2 (by decide)) (fun b h => h.elim)
    exact (h0.mono (G := fun b => b = w2.heap.size) (fun b hb => hb.elim (fun h => h.elim) id)).under HB3.out (fun b hb => by rw [World.size_alloc]; omega)
  have hq := pairs_at (fun b => b = w2.heap.size) [tnum 1, tnum 2] tnil (some ⟨w2.heap.size, 0, none⟩) 2 _ w3 (fun b hb => by omega) hrow (nil_leaf w3) (by simp [maxLen])
  refine hq.mono ?_
  rintro e w4 ⟨v, rfl, ht, hb4⟩
  have HT := Lib.hid ht
  obtain ⟨A9, c9, hv, _, _⟩ := ht.inv
  have hv : v = .agg #[.int .i64 9, .int .i64 0, .string ⟨#[]⟩, .slice A9 2 c9] := hv
  subst hv
  have hg : Blk w4 w.heap.size 24 #[.int .i64 0, .int .i64 0, .string ⟨#[]⟩, .slice none 0 0] :=
    ((((Blk.new w _ _).below HB1.out (by rw [World.size_alloc]; omega)).below HB2.out (by omega)).alloc _ |>.below HB3.out (by rw [World.size_alloc]; omega)).below hb4 (by omega)
  obtain ⟨p0, p1, p2, p3, q0, q1, q2, q3⟩ := hg.four
  have hbw : Below w.heap.size w w4 := bnext (bnext (bnext (bnext ((Below.refl _ _).alloc (Nat.le_refl _) _) HB1.out) HB2.out |> fun h => ballocs h _) HB3.out) hb4
  have HF := Lib.hid (show TA (put4 w4 w.heap.size (.int .i64 9) (.int .i64 0) (.string ⟨#[]⟩) (.slice A9 2 c9)) twoT (.agg #[.int .i64 9, .int .i64 0, .string ⟨#[]⟩, .slice A9 2 c9]) from (ht.keep fun p hp => put4_cell _ _ _ _ _ _ p (by have := hp.2; omega)).mono fun b hb => by rw [put4_size]; exact hb.1)
  have HBF := Lib.hid (put4_below hbw (Nat.le_refl _) (.int .i64 9) (.int .i64 0) (.string ⟨#[]⟩) (.slice A9 2 c9))
  clear ht hb4 hrow hq hg hbw hv HT
  go_wp2_with fail
  exact bodyPost_ret (v := .agg #[.int .i64 9, .int .i64 0, .string ⟨#[]⟩, .slice A9 2 c9]) (by simp [results, Try.results35, go_sem, p0, p1, p2, p3]) rfl ⟨_, rfl, HF.out, HBF.out⟩
end Go.Proofs.Ytiknelmaepkdkaa.K
