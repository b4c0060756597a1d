/- need and tenureref13, walked further: Object, Put, Sum, each by its contract. -/
import Derived.Test.YtofinjkgbbdbcaaNeed
namespace Go.Proofs.Ytofinjkgbbdbcaa.Nd
open Go.RowKit K Ar
set_option linter.unusedVariables false
set_option linter.unusedSimpArgs false

set_option maxRecDepth 100000 in
set_option maxHeartbeats 4000000 in
theorem obj_any (t : Tm) (v : Value) (w : World) (h : TA w t v) (hn : nodes t ≤ 1048576) : Calls Try.prog 9 #[v] w fun e w' => e = .returned (.tuple #[.int .i64 (objN t), .int .i64 (objE t)]) ∧ Below w.heap.size w w' := by
  have HCk := Lib.hid (fun w h => check_any t v w h hn)
  have HWd := Lib.hid (fun w h => words_any t v w h hn)
  have HTA := Lib.hid h
  obtain ⟨k0, n0, s, l, A, c, rfl, rfl, ok, hl⟩ := h.open_
  obtain ⟨w1, hw1⟩ : ∃ w1, w.alloc (.cells #[.int .i64 k0, .int .i64 n0, .string s, .slice A l.length c] 24) = w1 := ⟨_, rfl⟩
  have HR := Lib.hid (show Below w.heap.size w w1 from by rw [← hw1]; exact ballocs (Below.refl w.heap.size w) _)
  have HG := Lib.hid (show Blk w1 w.heap.size 24 #[.int .i64 k0, .int .i64 n0, .string s, .slice A l.length c] from by rw [← hw1]; exact Blk.new _ _ _)
  have HW := Lib.hid hw1
  clear h hn hl ok hw1
  obtain ⟨x, hx⟩ : ∃ x, chk (.mk k0 n0 s l) = x := ⟨_, rfl⟩
  rw [hx] at HCk
  by_cases h0 : x = 0
  · subst h0
    obtain ⟨y, hy⟩ : ∃ y, wds (.mk k0 n0 s l) = y := ⟨_, rfl⟩
    have hr := chk_wds hx
    have HE := Lib.hid (show rndI y = objN (.mk k0 n0 s l) from by unfold objN; rw [if_pos hx, hy])
    rw [hy] at HWd hr
    have HRd := Lib.hid (fun w => round_any y (WalkArith.wf_i64 (by omega)) w)
    have HE2 := Lib.hid (show (0 : Int) = objE (.mk k0 n0 s l) from hx.symm)
    clear hx hy hr
    go_enter Try.func9, Try.ntmps9
    go_wp2_with fail
    rw [HW.out]
    refine (HCk.out _ (HTA.out.later HR.out)).mono ?_
    rintro e w2 ⟨rfl, hb2⟩
    have HB2 := Lib.hid (bnext HR.out hb2)
    obtain ⟨p0, p1, p2, p3, _, _, _, _⟩ := (HG.out.below hb2 HG.out.lt).four
    clear hb2
    go_wp2_with fail
    refine (HWd.out _ (HTA.out.later HB2.out)).mono ?_
    rintro e w3 ⟨rfl, hb3⟩
    have HB3 := Lib.hid (bnext HB2.out hb3)
    clear hb3
    go_wp2_with fail
    refine (HRd.out _).mono ?_
    rintro e w4 ⟨rfl, rfl⟩
    go_wp2_with fail
    go_ret2
    exact ⟨ret2_ii HE.out HE2.out, HB3.out⟩
  · have HE := Lib.hid (show (0 : Int) = objN (.mk k0 n0 s l) from by unfold objN; rw [if_neg (by rw [hx]; exact h0)])
    have HE2 := Lib.hid (show x = objE (.mk k0 n0 s l) from hx.symm)
    have hne : (x != 0) = true := by simpa using h0
    have hne2 : (x == 0) = false := by simpa using h0
    clear hx
    go_enter Try.func9, Try.ntmps9
    go_wp2_with fail
    rw [HW.out]
    refine (HCk.out _ (HTA.out.later HR.out)).mono ?_
    rintro e w2 ⟨rfl, hb2⟩
    have HB2 := Lib.hid (bnext HR.out hb2)
    clear hb2
    go_wp2_with fail
    go_ret2
    exact ⟨ret2_ii HE.out HE2.out, HB2.out⟩

set_option maxRecDepth 100000 in
set_option maxHeartbeats 4000000 in
theorem robj_any (t : Tm) (v : Value) (w : World) (h : TA w t v) (hn : nodes t ≤ 1048576) : Calls Try.prog 10 #[v] w fun e w' => e = .returned (.tuple #[.int .i64 (objN t), .int .i64 (objE t)]) ∧ Below w.heap.size w w' := by
  have HCk := Lib.hid (fun w h => rcheck_any t v w h hn)
  have HWd := Lib.hid (fun w h => rwords_any t hn v w h)
  have HTA := Lib.hid h
  obtain ⟨k0, n0, s, l, A, c, rfl, rfl, ok, hl⟩ := h.open_
  obtain ⟨w1, hw1⟩ : ∃ w1, w.alloc (.cells #[.int .i64 k0, .int .i64 n0, .string s, .slice A l.length c] 24) = w1 := ⟨_, rfl⟩
  have HR := Lib.hid (show Below w.heap.size w w1 from by rw [← hw1]; exact ballocs (Below.refl w.heap.size w) _)
  have HG := Lib.hid (show Blk w1 w.heap.size 24 #[.int .i64 k0, .int .i64 n0, .string s, .slice A l.length c] from by rw [← hw1]; exact Blk.new _ _ _)
  have HW := Lib.hid hw1
  clear h hn hl ok hw1
  obtain ⟨x, hx⟩ : ∃ x, chk (.mk k0 n0 s l) = x := ⟨_, rfl⟩
  rw [hx] at HCk
  by_cases h0 : x = 0
  · subst h0
    obtain ⟨y, hy⟩ : ∃ y, wds (.mk k0 n0 s l) = y := ⟨_, rfl⟩
    have hr := chk_wds hx
    have HE := Lib.hid (show rndI y = objN (.mk k0 n0 s l) from by unfold objN; rw [if_pos hx, hy])
    rw [hy] at HWd hr
    have HRd := Lib.hid (fun w => rround_any y (WalkArith.wf_i64 (by omega)) w)
    have HE2 := Lib.hid (show (0 : Int) = objE (.mk k0 n0 s l) from hx.symm)
    clear hx hy hr
    go_enter Try.func10, Try.ntmps10
    go_wp2_with fail
    rw [HW.out]
    refine (HCk.out _ (HTA.out.later HR.out)).mono ?_
    rintro e w2 ⟨rfl, hb2⟩
    have HB2 := Lib.hid (bnext HR.out hb2)
    obtain ⟨p0, p1, p2, p3, _, _, _, _⟩ := (HG.out.below hb2 HG.out.lt).four
    clear hb2
    go_wp2_with fail
    refine (HWd.out _ (HTA.out.later HB2.out)).mono ?_
    rintro e w3 ⟨rfl, hb3⟩
    have HB3 := Lib.hid (bnext HB2.out hb3)
    clear hb3
    go_wp2_with fail
    refine (HRd.out _).mono ?_
    rintro e w4 ⟨rfl, rfl⟩
    go_wp2_with fail
    go_ret2
    exact ⟨ret2_ii HE.out HE2.out, HB3.out⟩
  · have HE := Lib.hid (show (0 : Int) = objN (.mk k0 n0 s l) from by unfold objN; rw [if_neg (by rw [hx]; exact h0)])
    have HE2 := Lib.hid (show x = objE (.mk k0 n0 s l) from hx.symm)
    have hne : (x != 0) = true := by simpa using h0
    have hne2 : (x == 0) = false := by simpa using h0
    clear hx
    go_enter Try.func10, Try.ntmps10
    go_wp2_with fail
    rw [HW.out]
    refine (HCk.out _ (HTA.out.later HR.out)).mono ?_
    rintro e w2 ⟨rfl, hb2⟩
    have HB2 := Lib.hid (bnext HR.out hb2)
    clear hb2
    go_wp2_with fail
    go_ret2
    exact ⟨ret2_ii HE.out HE2.out, HB2.out⟩

set_option maxRecDepth 100000 in
set_option maxHeartbeats 4000000 in
theorem bad_any (k b : Int) (w : World) : Calls Try.prog 41 #[.int .i64 k, .int .i64 b] w fun e w' => e = .returned (.bool (decide (badP k b))) ∧ Below w.heap.size w w' := by
  by_cases hk : 1 ≤ k ∧ k ≤ 4
  · have HK := Lib.hid (fun w => (show tableK k = 16 from by unfold tableK; rw [if_pos hk]) ▸ table_any k w)
    by_cases h0 : b < 0
    · have HE := Lib.hid (decide_eq_true (show badP k b from .inr (.inl h0))).symm
      clear hk
      go_enter Try.func41, Try.ntmps41
      go_wp2_with fail
      refine (HK.out _).mono ?_
      rintro e w1 ⟨rfl, hb1⟩
      have HB := Lib.hid hb1
      clear hb1
      go_wp2_with fail
      go_ret
      exact ⟨ret1_b HE.out, HB.out⟩
    · by_cases h1 : 1048576 < b
      · have HE := Lib.hid (decide_eq_true (show badP k b from .inr (.inr h1))).symm
        clear hk
        go_enter Try.func41, Try.ntmps41
        go_wp2_with fail
        refine (HK.out _).mono ?_
        rintro e w1 ⟨rfl, hb1⟩
        have HB := Lib.hid hb1
        clear hb1
        go_wp2_with fail
        go_ret
        exact ⟨ret1_b HE.out, HB.out⟩
      · have HE := Lib.hid (decide_eq_false (show ¬ badP k b from fun h => by unfold badP at h; omega)).symm
        clear hk
        go_enter Try.func41, Try.ntmps41
        go_wp2_with fail
        refine (HK.out _).mono ?_
        rintro e w1 ⟨rfl, hb1⟩
        have HB := Lib.hid hb1
        clear hb1
        go_wp2_with fail
        go_ret
        exact ⟨ret1_b (by rw [← HE.out, decide_eq_false (show ¬ b < 0 by omega), decide_eq_false (show ¬ 1048576 < b by omega)]; rfl), HB.out⟩
  · have HK := Lib.hid (fun w => (show tableK k = 0 from by unfold tableK; rw [if_neg hk]) ▸ table_any k w)
    have HE := Lib.hid (decide_eq_true (show badP k b from .inl hk)).symm
    clear hk
    go_enter Try.func41, Try.ntmps41
    go_wp2_with fail
    refine (HK.out _).mono ?_
    rintro e w1 ⟨rfl, hb1⟩
    have HB := Lib.hid hb1
    clear hb1
    go_wp2_with fail
    go_ret
    exact ⟨ret1_b HE.out, HB.out⟩

end Go.Proofs.Ytofinjkgbbdbcaa.Nd
