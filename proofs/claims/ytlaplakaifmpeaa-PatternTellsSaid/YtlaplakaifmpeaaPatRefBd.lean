/- tenureref16.Bound, by its contract. -/
import Derived.Test.YtlaplakaifmpeaaPatRefVs
namespace Go.Proofs.Ytlaplakaifmpeaa.Pt
open Go.RowKit K Go.Shelf
set_option linter.unusedVariables false
set_option linter.unusedSimpArgs false

set_option maxRecDepth 100000 in
set_option maxHeartbeats 4000000 in
theorem rBound_any (t : Tm) (v : Value) (w : World) (h : TA w t v) (hn : nodes t ≤ 1048576) : Calls Try.prog 32 #[v] w fun e w' => e = .returned (.bool (boundT t)) ∧ Below w.heap.size w w' := by
  have ht := h
  obtain ⟨k, n, s, l, A, c, rfl, rfl, ok, hl⟩ := h.open_
  obtain ⟨W1, hW1⟩ : ∃ W1, w.alloc (.cells #[.int .i64 k, .int .i64 n, .string s, .slice A l.length c] 24) = W1 := ⟨_, rfl⟩
  have hb1 : Below w.heap.size w W1 := by rw [← hW1]; exact ballocs (Below.refl _ _) _
  have hg : Blk W1 w.heap.size 24 #[.int .i64 k, .int .i64 n, .string s, .slice A l.length c] := by rw [← hW1]; exact Blk.new _ _ _
  have HCk := Lib.hid (rcheck_any _ _ W1 (ht.later hb1) hn)
  have HB1 := Lib.hid hb1; have HG := Lib.hid hg; have HW1 := Lib.hid hW1
  have HT := Lib.hid (ht.later hb1)
  obtain ⟨T, hT⟩ : ∃ T, Tm.mk k n s l = T := ⟨_, rfl⟩
  rw [hT] at HCk HT hn ⊢
  obtain ⟨z, hz⟩ : ∃ z, chk T = z := ⟨_, rfl⟩
  rw [hz] at HCk
  by_cases h0 : z = 0
  · have hm : mayT T = true := by unfold mayT; rw [hz, h0]; rfl
    have HE := Lib.hid (bound_eq hm)
    have hlen : (rvars T []).length ≤ 100 := by rw [rvars_vars hm]; exact varsUp_len _ _
    have HC := Lib.hid (fun w' (hb : Below W1.heap.size W1 w') => rvars_any T hn hm _ (fun _ => false) none 0 w' (HT.out.later hb) (by rw [varsUp_none]; exact IsAt.nil w'))
    have HA := Lib.hid (fun w' (hb : Below W1.heap.size W1 w') => ranyIn_any T _ w' (HT.out.later hb))
    simp only [varsUp_none, List.length_nil] at HC
    obtain ⟨m, hm2⟩ : ∃ m, (rvars T []).length = m := ⟨_, rfl⟩
    rw [hm2] at HE hlen
    have HM := Lib.hid hm2
    subst h0
    clear h ht ok hl hb1 hg hW1 hT hz hn hm hm2
    go_enter Try.func32, Try.ntmps32
    go_wp2_with fail
    rw [HW1.out]
    refine HCk.out.mono ?_
    rintro e w2 ⟨rfl, hb2⟩
    have HB2 := Lib.hid (bnext HB1.out hb2)
    have HD2 := Lib.hid hb2
    obtain ⟨p0, p1, p2, p3, _, _, _, _⟩ := (HG.out.below hb2 HG.out.lt).four
    have HC2 := Lib.hid (HC.out w2 hb2)
    clear hb2 HC
    go_wp2_with fail
    refine HC2.out.mono ?_
    rintro e w3 ⟨A3, c3, rfl, hi3, hb3⟩
    rw [HM.out]
    have HB3 := Lib.hid (bnext HB2.out hb3)
    have hb13 := bnext HD2.out hb3
    obtain ⟨p0, p1, p2, p3, _, _, _, _⟩ := (HG.out.below hb13 HG.out.lt).four
    have HA3 := Lib.hid (HA.out w3 hb13)
    clear hi3 hb3 hb13
    by_cases hm0 : m = 0
    · subst hm0
      go_wp2_with fail
      refine HA3.out.mono ?_
      rintro e w4 ⟨rfl, hb4⟩
      have HB4 := Lib.hid (bnext HB3.out hb4)
      clear hb4
      go_wp2_with fail
      go_ret
      exact ⟨ret1_b (by rw [HE.out]; rfl), HB4.out⟩
    · have hmf : ((m : Int) == 0) = false := by simp; omega
      have HE2 := Lib.hid (show boundT T = false from by rw [HE.out, decide_eq_false hm0]; rfl)
      go_wp2_with fail
      go_ret
      exact ⟨ret1_b (by rw [HE2.out]), HB3.out⟩
  · have hk : (z == 0) = false := by simpa using h0
    have hk2 : (z != 0) = true := by simpa using h0
    have HE := Lib.hid (show boundT T = false from by unfold boundT mayT; rw [hz, decide_eq_false h0]; rfl)
    clear h ht ok hl hb1 hg hW1 hT hz hn h0
    go_enter Try.func32, Try.ntmps32
    go_wp2_with fail
    rw [HW1.out]
    refine HCk.out.mono ?_
    rintro e w2 ⟨rfl, hb2⟩
    have HB2 := Lib.hid (bnext HB1.out hb2)
    clear hb2
    go_wp2_with fail
    go_ret
    exact ⟨ret1_b (by rw [HE.out]), HB2.out⟩
end Go.Proofs.Ytlaplakaifmpeaa.Pt
