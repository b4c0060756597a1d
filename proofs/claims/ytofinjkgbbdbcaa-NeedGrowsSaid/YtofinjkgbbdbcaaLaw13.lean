/- tenurelaw13's pair, puts and awake, walked. -/
import Derived.Test.YtofinjkgbbdbcaaNeedPut
import Derived.Test.YtofinjkgbbdbcaaNeedSum
import Derived.Test.YtofinjkgbbdbcaaVals
namespace Go.Proofs.Ytofinjkgbbdbcaa.Nd
open Go.RowKit K Ar
set_option linter.unusedVariables false
set_option linter.unusedSimpArgs false

def pairT : Tm := ttup [tsym ⟨#[97]⟩, tnum 1]
theorem pair_nodes : nodes pairT = 3 := by simp [pairT, ttup, tsym, tnum, nodes_eq, nodesL_cons, nodesL_nil]
theorem pair_wds : wds pairT = 4 := by simp [pairT, ttup, tsym, tnum, wds_eq, wdsL_cons, wdsL_nil, ownN, hasB]
theorem pair_chk : chk pairT = 0 := by
  have h : sndL (subs pairT) = true := by
    have e : subs pairT = [pairT, tsym ⟨#[97]⟩, tnum 1] := by simp [pairT, ttup, tsym, tnum, subs_eq, subsL_cons, subsL_nil]
    rw [e]
    decide
  rw [chk_eq, if_pos h, pair_wds]
  rfl
theorem pair_obj : objN pairT = 4 := by
  unfold objN
  rw [if_pos pair_chk, pair_wds]
  decide

set_option maxRecDepth 100000 in
set_option maxHeartbeats 4000000 in
theorem pair_any (w : World) : Calls Try.prog 26 #[] w (K.Told w pairT) := by
  have HN := Lib.hid (fun n w => num_val n w)
  have HS := Lib.hid (fun s w => sym_val s w)
  have HT := Lib.hid (fun A m c w => tup_val A m c w)
  go_enter Try.func26, Try.ntmps26
  go_wp2_with fail
  refine (HS.out _ _).mono ?_
  rintro e w1 ⟨rfl, hb1⟩
  have HB1 := Lib.hid hb1
  clear hb1
  go_wp2_with fail
  refine (HN.out _ _).mono ?_
  rintro e w2 ⟨rfl, hb2⟩
  have HB2 := Lib.hid hb2
  clear hb2
  go_wp2_with fail
  refine (HT.out _ _ _ _).mono ?_
  rintro e w3 ⟨rfl, hb3⟩
  have HB3 := Lib.hid hb3
  clear hb3
  have hz1 := HB1.out.size
  have hz2 := HB2.out.size
  have hz3 := HB3.out.size
  rw [World.size_alloc] at hz1 hz3
  have hrow : TsAt w3 (fun b => b = w2.heap.size) (some ⟨w2.heap.size, 0, none⟩) [tsym ⟨#[97]⟩, tnum 1] := by
    have h0 := lit2 (w := w2) (F := fun _ => False) (sym_leaf w2 ⟨#[97]⟩ (by decide)) (num_leaf w2 1 (by decide)) (fun b h => h.elim)
    exact (h0.mono (G := fun b => b = w2.heap.size) (fun b hb => hb.elim (fun h => h.elim) id)).under HB3.out (fun b hb => by rw [World.size_alloc]; omega)
  have ht : TAt w3 (fun b => b = w2.heap.size) pairT (.agg #[.int .i64 7, .int .i64 0, .string ⟨#[]⟩, .slice (some ⟨w2.heap.size, 0, none⟩) 2 2]) :=
    TAt.of (t := pairT) ⟨by decide, by decide, by decide, Nat.le_refl _, by simp [maxLen], fun h => by cases h⟩ hrow
  have hg : Blk w3 w.heap.size 24 #[.int .i64 0, .int .i64 0, .string ⟨#[]⟩, .slice none 0 0] :=
    (((Blk.new w _ _).below HB1.out (by rw [World.size_alloc]; omega)).below HB2.out (by omega)).alloc _ |>.below HB3.out (by rw [World.size_alloc]; omega)
  obtain ⟨p0, p1, p2, p3, q0, q1, q2, q3⟩ := hg.four
  have hbw : Below w.heap.size w w3 := bnext (bnext (bnext ((Below.refl _ _).alloc (Nat.le_refl _) _) HB1.out) HB2.out |> fun h => ballocs h _) HB3.out
  have HF := Lib.hid (show TA (put4 w3 w.heap.size (.int .i64 7) (.int .i64 0) (.string ⟨#[]⟩) (.slice (some ⟨w2.heap.size, 0, none⟩) 2 2)) pairT (.agg #[.int .i64 7, .int .i64 0, .string ⟨#[]⟩, .slice (some ⟨w2.heap.size, 0, none⟩) 2 2]) from (ht.keep fun p hp => put4_cell _ _ _ _ _ _ p (by omega)).mono fun b hb => by rw [put4_size]; omega)
  have HBF := Lib.hid (put4_below hbw (Nat.le_refl _) (.int .i64 7) (.int .i64 0) (.string ⟨#[]⟩) (.slice (some ⟨w2.heap.size, 0, none⟩) 2 2))
  clear ht hrow hg hbw
  go_wp2_with fail
  exact bodyPost_ret (v := .agg #[.int .i64 7, .int .i64 0, .string ⟨#[]⟩, .slice (some ⟨w2.heap.size, 0, none⟩) 2 2]) (by simp [results, Try.results26, go_sem, p0, p1, p2, p3]) rfl ⟨_, rfl, HF.out, HBF.out⟩

set_option maxRecDepth 100000 in
set_option maxHeartbeats 4000000 in
theorem puts_any (k b c n : Int) (w : World) (hn : putN k b c pairT = n) (he : putE k b c pairT = 0) : Calls Try.prog 27 #[.int .i64 k, .int .i64 b, .int .i64 c, .int .i64 n] w fun e w' => e = .returned (.bool true) ∧ Below w.heap.size w w' := by
  have HP := Lib.hid (fun w => pair_any w)
  have HU := Lib.hid (fun v w h => put_any k b c pairT v w h (by rw [pair_nodes]; omega))
  rw [hn, he] at HU
  clear hn he
  go_enter Try.func27, Try.ntmps27
  go_wp2_with fail
  refine (HP.out _).mono ?_
  rintro e w1 ⟨v, rfl, ht, hb1⟩
  have HB1 := Lib.hid hb1
  have HT1 := Lib.hid ht
  obtain ⟨A, c', rfl, _⟩ := ht.inv
  clear ht hb1
  dsimp only [tv]
  go_wp2_with fail
  refine (HU.out _ _ HT1.out).mono ?_
  rintro e w2 ⟨rfl, hb2⟩
  have HB2 := Lib.hid (bnext HB1.out hb2)
  clear hb2
  go_wp2_with fail
  go_ret
  exact ⟨ret1_b (by simp), HB2.out⟩

theorem put1 : putN 1 16 32 pairT = 24 ∧ putE 1 16 32 pairT = 0 := by
  unfold putN putE
  rw [pair_chk, pair_wds]
  decide
theorem put2 : putN 1 16 31 pairT = 8 ∧ putE 1 16 31 pairT = 0 := by
  unfold putN putE
  rw [pair_chk, pair_wds]
  decide
theorem put3 : putN 2 0 9 pairT = 10 ∧ putE 2 0 9 pairT = 0 := by
  unfold putN putE
  rw [pair_chk, pair_wds]
  decide
set_option maxRecDepth 100000 in
set_option maxHeartbeats 4000000 in
theorem awake_any (w : World) : Calls Try.prog 18 #[] w fun e w' => e = .returned (.bool true) ∧ Below w.heap.size w w' := by
  have HP := Lib.hid (fun w => pair_any w)
  have HU := Lib.hid (fun w => puts_any 1 16 32 24 w put1.1 put1.2)
  have HO := Lib.hid (fun v w h => obj_any pairT v w h (by rw [pair_nodes]; omega))
  rw [pair_obj, show objE pairT = 0 from pair_chk] at HO
  have HN := Lib.hid (fun w => (show nodeK 2 = 6 from rfl) ▸ node_any 2 w)
  have HTb := Lib.hid (fun w => (show tableK 1 = 16 from rfl) ▸ table_any 1 w)
  have HK := Lib.hid (fun w => (show bktN 16 = 16 from rfl) ▸ bkt_any 16 w)
  go_enter Try.func18, Try.ntmps18
  go_wp2_with fail
  refine (HP.out _).mono ?_
  rintro e w1 ⟨v, rfl, ht, hb1⟩
  have HB1 := Lib.hid hb1
  have HT1 := Lib.hid ht
  obtain ⟨A, c', rfl, _⟩ := ht.inv
  clear ht hb1
  dsimp only [tv]
  go_wp2_with fail
  refine (HO.out _ _ HT1.out).mono ?_
  rintro e w2 ⟨rfl, hb2⟩
  have HB2 := Lib.hid (bnext HB1.out hb2)
  clear hb2
  go_wp2_with fail
  refine (HN.out _).mono ?_
  rintro e w3 ⟨rfl, hb3⟩
  have HB3 := Lib.hid (bnext HB2.out hb3)
  clear hb3
  go_wp2_with fail
  refine (HTb.out _).mono ?_
  rintro e w4 ⟨rfl, hb4⟩
  have HB4 := Lib.hid (bnext HB3.out hb4)
  clear hb4
  go_wp2_with fail
  refine (HK.out _).mono ?_
  rintro e w5 ⟨rfl, rfl⟩
  go_wp2_with fail
  refine (HU.out _).mono ?_
  rintro e w6 ⟨rfl, hb6⟩
  have HB6 := Lib.hid (bnext HB4.out hb6)
  clear hb6
  go_wp2_with fail
  go_ret
  exact ⟨rfl, HB6.out⟩
end Go.Proofs.Ytofinjkgbbdbcaa.Nd
