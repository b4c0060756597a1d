/- need.Put and tenureref13.Put, by contracts. -/
import Derived.Test.YtofinjkgbbdbcaaNeed2
namespace Go.Proofs.Ytofinjkgbbdbcaa.Nd
open Go.RowKit K Ar
set_option linter.unusedVariables false
set_option linter.unusedSimpArgs false

theorem put_bad {k b c : Int} {t : Tm} (h : badP k b ∨ c < 0 ∨ 16777216 < c) : (0 : Int) = putN k b c t ∧ (2 : Int) = putE k b c t := by
  unfold putN putE
  rw [if_pos h, if_pos h]
  exact ⟨rfl, rfl⟩
theorem put_no {k b c : Int} {t : Tm} (h : ¬ (badP k b ∨ c < 0 ∨ 16777216 < c)) (hx : objE t ≠ 0) : (0 : Int) = putN k b c t ∧ objE t = putE k b c t := by
  have hx : chk t ≠ 0 := hx
  unfold putN putE
  rw [if_neg h, if_neg h, if_neg hx]
  exact ⟨rfl, rfl⟩
theorem put_plain {k b c : Int} {t : Tm} (h : ¬ (badP k b ∨ c < 0 ∨ 16777216 < c)) (hx : objE t = 0) (h2 : ¬ (k ≠ 2 ∧ 2 * b ≤ c ∧ b < 1048576)) : objN t + nodeK k = putN k b c t ∧ (0 : Int) = putE k b c t := by
  have hx : chk t = 0 := hx
  unfold putN putE objN
  rw [if_neg h, if_neg h, if_pos hx, if_pos hx, if_neg h2, hx]
  exact ⟨by omega, rfl⟩
theorem put_more {k b c : Int} {t : Tm} (h : ¬ (badP k b ∨ c < 0 ∨ 16777216 < c)) (hx : objE t = 0) (h2 : k ≠ 2 ∧ 2 * b ≤ c ∧ b < 1048576) : objN t + nodeK k + (bktN (b + 1) - bktN b) = putN k b c t ∧ (0 : Int) = putE k b c t := by
  have hx : chk t = 0 := hx
  unfold putN putE objN
  rw [if_neg h, if_neg h, if_pos hx, if_pos hx, if_pos h2, hx]
  exact ⟨rfl, rfl⟩

set_option maxRecDepth 100000 in
set_option maxHeartbeats 8000000 in
theorem put_any (k b c : Int) (t : Tm) (v : Value) (w : World) (h : TA w t v) (hn : nodes t ≤ 1048576) : Calls Try.prog 23 #[.int .i64 k, .int .i64 b, .int .i64 c, v] w fun e w' => e = .returned (.tuple #[.int .i64 (putN k b c t), .int .i64 (putE k b c t)]) ∧ Below w.heap.size w w' := by
  have HO := Lib.hid (fun w h => obj_any t v w h hn)
  have HTA := Lib.hid h
  have HNd := Lib.hid (fun w => node_any k w)
  have HBk := Lib.hid (fun b w => bkt_any b w)
  obtain ⟨k0, n0, s, l, A, c0, rfl, rfl, ok, hl⟩ := h.open_
  obtain ⟨w1, hw1⟩ : ∃ w1, w.alloc (.cells #[.int .i64 k0, .int .i64 n0, .string s, .slice A l.length c0] 24) = w1 := ⟨_, rfl⟩
  have HR := Lib.hid (show Below w.heap.size w w1 from by rw [← hw1]; exact ballocs (Below.refl w.heap.size w) _)
  have HG := Lib.hid (show Blk w1 w.heap.size 24 #[.int .i64 k0, .int .i64 n0, .string s, .slice A l.length c0] from by rw [← hw1]; exact Blk.new _ _ _)
  have HW := Lib.hid hw1
  clear h hn hl ok hw1
  obtain ⟨t, ht⟩ : ∃ t, Tm.mk k0 n0 s l = t := ⟨_, rfl⟩
  rw [ht] at HTA HO ⊢
  clear ht
  have HBd := Lib.hid (fun w => bad_any k b w)
  by_cases hb : badP k b
  · have hd : decide (badP k b) = true := decide_eq_true hb
    have HE := Lib.hid (put_bad (t := t) (show badP k b ∨ c < 0 ∨ 16777216 < c from by first | exact .inl hb | exact .inr (by omega)))
    clear hb
    go_enter Try.func23, Try.ntmps23
    go_wp2_with fail
    rw [HW.out]
    refine (HBd.out _).mono ?_
    rintro e w2 ⟨rfl, hb2⟩
    rw [hd]
    have HB2 := Lib.hid (bnext HR.out hb2)
    have HG2 := Lib.hid (HG.out.below hb2 HG.out.lt)
    clear hb2
    obtain ⟨p0, p1, p2, p3, _, _, _, _⟩ := HG2.out.four
    go_wp2_with fail
    go_ret2
    exact ⟨ret2_ii HE.out.1 HE.out.2, HB2.out⟩
  have hd : decide (badP k b) = false := decide_eq_false hb
  have hr : 0 ≤ b ∧ b ≤ 1048576 := by unfold badP at hb; omega
  obtain ⟨r1, r2⟩ := hr
  by_cases hc : c < 0
  · have HE := Lib.hid (put_bad (t := t) (show badP k b ∨ c < 0 ∨ 16777216 < c from by first | exact .inl hb | exact .inr (by omega)))
    clear hb
    go_enter Try.func23, Try.ntmps23
    go_wp2_with fail
    rw [HW.out]
    refine (HBd.out _).mono ?_
    rintro e w2 ⟨rfl, hb2⟩
    rw [hd]
    have HB2 := Lib.hid (bnext HR.out hb2)
    have HG2 := Lib.hid (HG.out.below hb2 HG.out.lt)
    clear hb2
    obtain ⟨p0, p1, p2, p3, _, _, _, _⟩ := HG2.out.four
    go_wp2_with fail
    go_ret2
    exact ⟨ret2_ii HE.out.1 HE.out.2, HB2.out⟩
  have hc0 : ¬ c < 0 := hc
  clear hc
  by_cases hc : 16777216 < c
  · have HE := Lib.hid (put_bad (t := t) (show badP k b ∨ c < 0 ∨ 16777216 < c from by first | exact .inl hb | exact .inr (by omega)))
    clear hb
    go_enter Try.func23, Try.ntmps23
    go_wp2_with fail
    rw [HW.out]
    refine (HBd.out _).mono ?_
    rintro e w2 ⟨rfl, hb2⟩
    rw [hd]
    have HB2 := Lib.hid (bnext HR.out hb2)
    have HG2 := Lib.hid (HG.out.below hb2 HG.out.lt)
    clear hb2
    obtain ⟨p0, p1, p2, p3, _, _, _, _⟩ := HG2.out.four
    go_wp2_with fail
    go_ret2
    exact ⟨ret2_ii HE.out.1 HE.out.2, HB2.out⟩
  have hc1 : ¬ 16777216 < c := hc
  clear hc
  have hok : ¬ (badP k b ∨ c < 0 ∨ 16777216 < c) := fun h => by rcases h with h | h | h <;> first | exact hb h | omega
  have nr := obj_range t
  have nk := nodeK_range k
  have bk := bktN_range b
  have bl := bktN_range (b + 1)
  have HOK := Lib.hid hok
  clear hok hb
  obtain ⟨x, hx⟩ : ∃ x, objE t = x := ⟨_, rfl⟩
  obtain ⟨y, hy⟩ : ∃ y, objN t = y := ⟨_, rfl⟩
  obtain ⟨z, hz⟩ : ∃ z, nodeK k = z := ⟨_, rfl⟩
  obtain ⟨u0, hu0⟩ : ∃ u, bktN b = u := ⟨_, rfl⟩
  obtain ⟨u1, hu1⟩ : ∃ u, bktN (b + 1) = u := ⟨_, rfl⟩
  rw [hx, hy] at HO
  rw [hy] at nr
  rw [hz] at HNd nk
  rw [hu0] at bk
  rw [hu1] at bl
  have HB0 := Lib.hid (fun w => hu0 ▸ HBk.out b w)
  have HB1 := Lib.hid (fun w => hu1 ▸ HBk.out (b + 1) w)
  clear HBk
  obtain ⟨n1, n2⟩ := nr
  obtain ⟨z1, z2⟩ := nk
  obtain ⟨b1, b2⟩ := bk
  obtain ⟨d1, d2⟩ := bl
  by_cases h0 : x = 0
  case neg =>
    have HE := Lib.hid (put_no HOK.out (by rw [hx]; exact h0))
    have HX := Lib.hid hx
    have hne : (x != 0) = true := by simpa using h0
    have hne2 : (x == 0) = false := by simpa using h0
    clear hx hy hz hu0 hu1
    go_enter Try.func23, Try.ntmps23
    go_wp2_with fail
    rw [HW.out]
    refine (HBd.out _).mono ?_
    rintro e w2 ⟨rfl, hb2⟩
    rw [hd]
    have HB2 := Lib.hid (bnext HR.out hb2)
    have HG2 := Lib.hid (HG.out.below hb2 HG.out.lt)
    clear hb2
    obtain ⟨p0, p1, p2, p3, _, _, _, _⟩ := HG2.out.four
    go_wp2_with fail
    refine (HO.out _ (HTA.out.later HB2.out)).mono ?_
    rintro e w3 ⟨rfl, hb3⟩
    have HB3 := Lib.hid (bnext HB2.out hb3)
    clear hb3 p0 p1 p2 p3
    go_wp2_with fail
    go_ret2
    exact ⟨ret2_ii HE.out.1 (by rw [← HX.out]; exact HE.out.2), HB3.out⟩
  subst h0
  by_cases h2 : k ≠ 2 ∧ 2 * b ≤ c ∧ b < 1048576
  · have HE := Lib.hid (put_more (t := t) HOK.out hx h2)
    rw [hy, hz, hu0, hu1] at HE
    obtain ⟨g1, g2, g3⟩ := h2
    clear hx hy hz hu0 hu1
    go_enter Try.func23, Try.ntmps23
    go_wp2_with fail
    rw [HW.out]
    refine (HBd.out _).mono ?_
    rintro e w2 ⟨rfl, hb2⟩
    rw [hd]
    have HB2 := Lib.hid (bnext HR.out hb2)
    have HG2 := Lib.hid (HG.out.below hb2 HG.out.lt)
    clear hb2
    obtain ⟨p0, p1, p2, p3, _, _, _, _⟩ := HG2.out.four
    go_wp2_with fail
    refine (HO.out _ (HTA.out.later HB2.out)).mono ?_
    rintro e w3 ⟨rfl, hb3⟩
    have HB3 := Lib.hid (bnext HB2.out hb3)
    clear hb3 p0 p1 p2 p3
    go_wp2_with fail
    refine (HNd.out _).mono ?_
    rintro e w4 ⟨rfl, hb4⟩
    have HB4 := Lib.hid (bnext HB3.out hb4)
    clear hb4
    go_wp2_with fail
    refine (HB1.out _).mono ?_
    rintro e w5 ⟨rfl, rfl⟩
    go_wp2_with fail
    refine (HB0.out _).mono ?_
    rintro e w6 ⟨rfl, rfl⟩
    go_wp2_with fail
    go_ret2
    exact ⟨ret2_ii (by rw [← HE.out.1] <;> omega) HE.out.2, HB4.out⟩
  have HE := Lib.hid (put_plain (t := t) HOK.out hx h2)
  rw [hy, hz] at HE
  clear hx hy hz hu0 hu1 HB0 HB1
  by_cases k2 : k = 2
  · subst k2
    go_enter Try.func23, Try.ntmps23
    go_wp2_with fail
    rw [HW.out]
    refine (HBd.out _).mono ?_
    rintro e w2 ⟨rfl, hb2⟩
    rw [hd]
    have HB2 := Lib.hid (bnext HR.out hb2)
    have HG2 := Lib.hid (HG.out.below hb2 HG.out.lt)
    clear hb2
    obtain ⟨p0, p1, p2, p3, _, _, _, _⟩ := HG2.out.four
    go_wp2_with fail
    refine (HO.out _ (HTA.out.later HB2.out)).mono ?_
    rintro e w3 ⟨rfl, hb3⟩
    have HB3 := Lib.hid (bnext HB2.out hb3)
    clear hb3 p0 p1 p2 p3
    go_wp2_with fail
    refine (HNd.out _).mono ?_
    rintro e w4 ⟨rfl, hb4⟩
    have HB4 := Lib.hid (bnext HB3.out hb4)
    clear hb4
    go_wp2_with fail
    go_ret2
    exact ⟨ret2_ii (by rw [← HE.out.1]) HE.out.2, HB4.out⟩
  by_cases c2 : c < 2 * b
  · clear h2
    go_enter Try.func23, Try.ntmps23
    go_wp2_with fail
    rw [HW.out]
    refine (HBd.out _).mono ?_
    rintro e w2 ⟨rfl, hb2⟩
    rw [hd]
    have HB2 := Lib.hid (bnext HR.out hb2)
    have HG2 := Lib.hid (HG.out.below hb2 HG.out.lt)
    clear hb2
    obtain ⟨p0, p1, p2, p3, _, _, _, _⟩ := HG2.out.four
    go_wp2_with fail
    refine (HO.out _ (HTA.out.later HB2.out)).mono ?_
    rintro e w3 ⟨rfl, hb3⟩
    have HB3 := Lib.hid (bnext HB2.out hb3)
    clear hb3 p0 p1 p2 p3
    go_wp2_with fail
    refine (HNd.out _).mono ?_
    rintro e w4 ⟨rfl, hb4⟩
    have HB4 := Lib.hid (bnext HB3.out hb4)
    clear hb4
    go_wp2_with fail
    go_ret2
    exact ⟨ret2_ii (by rw [← HE.out.1]) HE.out.2, HB4.out⟩
  have b6 : b = 1048576 := by omega
  subst b6
  clear h2
  go_enter Try.func23, Try.ntmps23
  go_wp2_with fail
  rw [HW.out]
  refine (HBd.out _).mono ?_
  rintro e w2 ⟨rfl, hb2⟩
  rw [hd]
  have HB2 := Lib.hid (bnext HR.out hb2)
  have HG2 := Lib.hid (HG.out.below hb2 HG.out.lt)
  clear hb2
  obtain ⟨p0, p1, p2, p3, _, _, _, _⟩ := HG2.out.four
  go_wp2_with fail
  refine (HO.out _ (HTA.out.later HB2.out)).mono ?_
  rintro e w3 ⟨rfl, hb3⟩
  have HB3 := Lib.hid (bnext HB2.out hb3)
  clear hb3 p0 p1 p2 p3
  go_wp2_with fail
  refine (HNd.out _).mono ?_
  rintro e w4 ⟨rfl, hb4⟩
  have HB4 := Lib.hid (bnext HB3.out hb4)
  clear hb4
  go_wp2_with fail
  go_ret2
  exact ⟨ret2_ii (by rw [← HE.out.1]) HE.out.2, HB4.out⟩

set_option maxRecDepth 100000 in
set_option maxHeartbeats 8000000 in
theorem rput_any (k b c : Int) (t : Tm) (v : Value) (w : World) (h : TA w t v) (hn : nodes t ≤ 1048576) : Calls Try.prog 24 #[.int .i64 k, .int .i64 b, .int .i64 c, v] w fun e w' => e = .returned (.tuple #[.int .i64 (putN k b c t), .int .i64 (putE k b c t)]) ∧ Below w.heap.size w w' := by
  have HO := Lib.hid (fun w h => robj_any t v w h hn)
  have HTA := Lib.hid h
  have HNd := Lib.hid (fun w => rnode_any k w)
  have HBk := Lib.hid (fun b w => rbkt_any b w)
  obtain ⟨k0, n0, s, l, A, c0, rfl, rfl, ok, hl⟩ := h.open_
  obtain ⟨w1, hw1⟩ : ∃ w1, w.alloc (.cells #[.int .i64 k0, .int .i64 n0, .string s, .slice A l.length c0] 24) = w1 := ⟨_, rfl⟩
  have HR := Lib.hid (show Below w.heap.size w w1 from by rw [← hw1]; exact ballocs (Below.refl w.heap.size w) _)
  have HG := Lib.hid (show Blk w1 w.heap.size 24 #[.int .i64 k0, .int .i64 n0, .string s, .slice A l.length c0] from by rw [← hw1]; exact Blk.new _ _ _)
  have HW := Lib.hid hw1
  clear h hn hl ok hw1
  obtain ⟨t, ht⟩ : ∃ t, Tm.mk k0 n0 s l = t := ⟨_, rfl⟩
  rw [ht] at HTA HO ⊢
  clear ht
  have HKd := Lib.hid (fun w => rkind_any k w)
  by_cases hk : 1 ≤ k ∧ k ≤ 4
  case neg =>
    have hb : badP k b := .inl hk
    have hd : decide (1 ≤ k ∧ k ≤ 4) = false := decide_eq_false hk
    have HE := Lib.hid (put_bad (t := t) (show badP k b ∨ c < 0 ∨ 16777216 < c from by first | exact .inl hb | exact .inr (by omega)))
    clear hb hk
    go_enter Try.func24, Try.ntmps24
    go_wp2_with fail
    rw [HW.out]
    refine (HKd.out _).mono ?_
    rintro e w2 ⟨rfl, rfl⟩
    rw [hd]
    have HB2 := HR
    have HG2 := HG
    obtain ⟨p0, p1, p2, p3, _, _, _, _⟩ := HG2.out.four
    go_wp2_with fail
    go_ret2
    exact ⟨ret2_ii HE.out.1 HE.out.2, HB2.out⟩
  have hd : decide (1 ≤ k ∧ k ≤ 4) = true := decide_eq_true hk
  by_cases hb0 : b < 0
  · have hb : badP k b := .inr (.inl hb0)
    have HE := Lib.hid (put_bad (t := t) (show badP k b ∨ c < 0 ∨ 16777216 < c from by first | exact .inl hb | exact .inr (by omega)))
    clear hb hk
    go_enter Try.func24, Try.ntmps24
    go_wp2_with fail
    rw [HW.out]
    refine (HKd.out _).mono ?_
    rintro e w2 ⟨rfl, rfl⟩
    rw [hd]
    have HB2 := HR
    have HG2 := HG
    obtain ⟨p0, p1, p2, p3, _, _, _, _⟩ := HG2.out.four
    go_wp2_with fail
    go_ret2
    exact ⟨ret2_ii HE.out.1 HE.out.2, HB2.out⟩
  have hq0 : ¬ b < 0 := hb0
  clear hb0
  by_cases hb0 : 1048576 < b
  · have hb : badP k b := .inr (.inr hb0)
    have HE := Lib.hid (put_bad (t := t) (show badP k b ∨ c < 0 ∨ 16777216 < c from by first | exact .inl hb | exact .inr (by omega)))
    clear hb hk
    go_enter Try.func24, Try.ntmps24
    go_wp2_with fail
    rw [HW.out]
    refine (HKd.out _).mono ?_
    rintro e w2 ⟨rfl, rfl⟩
    rw [hd]
    have HB2 := HR
    have HG2 := HG
    obtain ⟨p0, p1, p2, p3, _, _, _, _⟩ := HG2.out.four
    go_wp2_with fail
    go_ret2
    exact ⟨ret2_ii HE.out.1 HE.out.2, HB2.out⟩
  have hq1 : ¬ 1048576 < b := hb0
  clear hb0
  have hb : ¬ badP k b := fun h => by unfold badP at h; omega
  have hr : 0 ≤ b ∧ b ≤ 1048576 := by omega
  clear hk
  obtain ⟨r1, r2⟩ := hr
  by_cases hc : c < 0
  · have HE := Lib.hid (put_bad (t := t) (show badP k b ∨ c < 0 ∨ 16777216 < c from by first | exact .inl hb | exact .inr (by omega)))
    clear hb
    go_enter Try.func24, Try.ntmps24
    go_wp2_with fail
    rw [HW.out]
    refine (HKd.out _).mono ?_
    rintro e w2 ⟨rfl, rfl⟩
    rw [hd]
    have HB2 := HR
    have HG2 := HG
    obtain ⟨p0, p1, p2, p3, _, _, _, _⟩ := HG2.out.four
    go_wp2_with fail
    go_ret2
    exact ⟨ret2_ii HE.out.1 HE.out.2, HB2.out⟩
  have hc0 : ¬ c < 0 := hc
  clear hc
  by_cases hc : 16777216 < c
  · have HE := Lib.hid (put_bad (t := t) (show badP k b ∨ c < 0 ∨ 16777216 < c from by first | exact .inl hb | exact .inr (by omega)))
    clear hb
    go_enter Try.func24, Try.ntmps24
    go_wp2_with fail
    rw [HW.out]
    refine (HKd.out _).mono ?_
    rintro e w2 ⟨rfl, rfl⟩
    rw [hd]
    have HB2 := HR
    have HG2 := HG
    obtain ⟨p0, p1, p2, p3, _, _, _, _⟩ := HG2.out.four
    go_wp2_with fail
    go_ret2
    exact ⟨ret2_ii HE.out.1 HE.out.2, HB2.out⟩
  have hc1 : ¬ 16777216 < c := hc
  clear hc
  have hok : ¬ (badP k b ∨ c < 0 ∨ 16777216 < c) := fun h => by rcases h with h | h | h <;> first | exact hb h | omega
  have nr := obj_range t
  have nk := nodeK_range k
  have bk := bktN_range b
  have bl := bktN_range (b + 1)
  have HOK := Lib.hid hok
  clear hok hb
  obtain ⟨x, hx⟩ : ∃ x, objE t = x := ⟨_, rfl⟩
  obtain ⟨y, hy⟩ : ∃ y, objN t = y := ⟨_, rfl⟩
  obtain ⟨z, hz⟩ : ∃ z, nodeK k = z := ⟨_, rfl⟩
  obtain ⟨u0, hu0⟩ : ∃ u, bktN b = u := ⟨_, rfl⟩
  obtain ⟨u1, hu1⟩ : ∃ u, bktN (b + 1) = u := ⟨_, rfl⟩
  rw [hx, hy] at HO
  rw [hy] at nr
  rw [hz] at HNd nk
  rw [hu0] at bk
  rw [hu1] at bl
  have HB0 := Lib.hid (fun w => hu0 ▸ HBk.out b w)
  have HB1 := Lib.hid (fun w => hu1 ▸ HBk.out (b + 1) w)
  clear HBk
  obtain ⟨n1, n2⟩ := nr
  obtain ⟨z1, z2⟩ := nk
  obtain ⟨b1, b2⟩ := bk
  obtain ⟨d1, d2⟩ := bl
  by_cases h0 : x = 0
  case neg =>
    have HE := Lib.hid (put_no HOK.out (by rw [hx]; exact h0))
    have HX := Lib.hid hx
    have hne : (x != 0) = true := by simpa using h0
    have hne2 : (x == 0) = false := by simpa using h0
    clear hx hy hz hu0 hu1
    go_enter Try.func24, Try.ntmps24
    go_wp2_with fail
    rw [HW.out]
    refine (HKd.out _).mono ?_
    rintro e w2 ⟨rfl, rfl⟩
    rw [hd]
    have HB2 := HR
    have HG2 := HG
    obtain ⟨p0, p1, p2, p3, _, _, _, _⟩ := HG2.out.four
    go_wp2_with fail
    refine (HO.out _ (HTA.out.later HB2.out)).mono ?_
    rintro e w3 ⟨rfl, hb3⟩
    have HB3 := Lib.hid (bnext HB2.out hb3)
    clear hb3 p0 p1 p2 p3
    go_wp2_with fail
    go_ret2
    exact ⟨ret2_ii HE.out.1 (by rw [← HX.out]; exact HE.out.2), HB3.out⟩
  subst h0
  by_cases h2 : k ≠ 2 ∧ 2 * b ≤ c ∧ b < 1048576
  · have HE := Lib.hid (put_more (t := t) HOK.out hx h2)
    rw [hy, hz, hu0, hu1] at HE
    obtain ⟨g1, g2, g3⟩ := h2
    clear hx hy hz hu0 hu1
    go_enter Try.func24, Try.ntmps24
    go_wp2_with fail
    rw [HW.out]
    refine (HKd.out _).mono ?_
    rintro e w2 ⟨rfl, rfl⟩
    rw [hd]
    have HB2 := HR
    have HG2 := HG
    obtain ⟨p0, p1, p2, p3, _, _, _, _⟩ := HG2.out.four
    go_wp2_with fail
    refine (HO.out _ (HTA.out.later HB2.out)).mono ?_
    rintro e w3 ⟨rfl, hb3⟩
    have HB3 := Lib.hid (bnext HB2.out hb3)
    clear hb3 p0 p1 p2 p3
    go_wp2_with fail
    refine (HNd.out _).mono ?_
    rintro e w4 ⟨rfl, rfl⟩
    have HB4 := HB3
    go_wp2_with fail
    refine (HB1.out _).mono ?_
    rintro e w5 ⟨rfl, rfl⟩
    go_wp2_with fail
    refine (HB0.out _).mono ?_
    rintro e w6 ⟨rfl, rfl⟩
    go_wp2_with fail
    go_ret2
    exact ⟨ret2_ii (by rw [← HE.out.1] <;> omega) HE.out.2, HB4.out⟩
  have HE := Lib.hid (put_plain (t := t) HOK.out hx h2)
  rw [hy, hz] at HE
  clear hx hy hz hu0 hu1 HB0 HB1
  by_cases k2 : k = 2
  · subst k2
    go_enter Try.func24, Try.ntmps24
    go_wp2_with fail
    rw [HW.out]
    refine (HKd.out _).mono ?_
    rintro e w2 ⟨rfl, rfl⟩
    rw [hd]
    have HB2 := HR
    have HG2 := HG
    obtain ⟨p0, p1, p2, p3, _, _, _, _⟩ := HG2.out.four
    go_wp2_with fail
    refine (HO.out _ (HTA.out.later HB2.out)).mono ?_
    rintro e w3 ⟨rfl, hb3⟩
    have HB3 := Lib.hid (bnext HB2.out hb3)
    clear hb3 p0 p1 p2 p3
    go_wp2_with fail
    refine (HNd.out _).mono ?_
    rintro e w4 ⟨rfl, rfl⟩
    have HB4 := HB3
    go_wp2_with fail
    go_ret2
    exact ⟨ret2_ii (by rw [← HE.out.1]) HE.out.2, HB4.out⟩
  by_cases c2 : c < 2 * b
  · clear h2
    go_enter Try.func24, Try.ntmps24
    go_wp2_with fail
    rw [HW.out]
    refine (HKd.out _).mono ?_
    rintro e w2 ⟨rfl, rfl⟩
    rw [hd]
    have HB2 := HR
    have HG2 := HG
    obtain ⟨p0, p1, p2, p3, _, _, _, _⟩ := HG2.out.four
    go_wp2_with fail
    refine (HO.out _ (HTA.out.later HB2.out)).mono ?_
    rintro e w3 ⟨rfl, hb3⟩
    have HB3 := Lib.hid (bnext HB2.out hb3)
    clear hb3 p0 p1 p2 p3
    go_wp2_with fail
    refine (HNd.out _).mono ?_
    rintro e w4 ⟨rfl, rfl⟩
    have HB4 := HB3
    go_wp2_with fail
    go_ret2
    exact ⟨ret2_ii (by rw [← HE.out.1]) HE.out.2, HB4.out⟩
  have b6 : b = 1048576 := by omega
  subst b6
  clear h2
  go_enter Try.func24, Try.ntmps24
  go_wp2_with fail
  rw [HW.out]
  refine (HKd.out _).mono ?_
  rintro e w2 ⟨rfl, rfl⟩
  rw [hd]
  have HB2 := HR
  have HG2 := HG
  obtain ⟨p0, p1, p2, p3, _, _, _, _⟩ := HG2.out.four
  go_wp2_with fail
  refine (HO.out _ (HTA.out.later HB2.out)).mono ?_
  rintro e w3 ⟨rfl, hb3⟩
  have HB3 := Lib.hid (bnext HB2.out hb3)
  clear hb3 p0 p1 p2 p3
  go_wp2_with fail
  refine (HNd.out _).mono ?_
  rintro e w4 ⟨rfl, rfl⟩
  have HB4 := HB3
  go_wp2_with fail
  go_ret2
  exact ⟨ret2_ii (by rw [← HE.out.1]) HE.out.2, HB4.out⟩

end Go.Proofs.Ytofinjkgbbdbcaa.Nd
