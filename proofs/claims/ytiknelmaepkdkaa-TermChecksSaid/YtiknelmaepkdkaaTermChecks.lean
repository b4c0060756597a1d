/- The law TermChecks returns true for any two terms: where both are small, Check, Words and Same answer as the document says, and change nothing. -/
import Derived.Test.YtiknelmaepkdkaaAwake02
import Derived.Test.YtiknelmaepkdkaaRefTm
import Derived.Test.YtiknelmaepkdkaaCheck
import Derived.Test.YtiknelmaepkdkaaRefSame
import Derived.Test.YtiknelmaepkdkaaSame
import Derived.Test.YtiknelmaepkdkaaOpenTm
import Derived.Test.YtiknelmaepkdkaaTold2
import Derived.Deep.RegionHeld3
namespace Go.Proofs.Ytiknelmaepkdkaa.TermChecks
open Go.RowKit K
open Go.ChangeShapes Go.WideShapes Go.ChangeAt
set_option linter.unusedVariables false
set_option linter.unusedSimpArgs false

theorem nodes_of_small {t : Tm} {m n : Nat} (h : largeT t m = false) (hm : m ≤ n) : nodes t ≤ n := by
  unfold largeT at h
  rw [Bool.or_eq_false_iff] at h
  have := of_decide_eq_false h.1
  omega

set_option maxRecDepth 100000 in
set_option maxHeartbeats 8000000 in
theorem walk (a b : Tm) (v v' : Value) (w : World) (h : TA w a v) (h' : TA w b v') : Calls Try.prog 5 #[v, v'] w fun e w' => e = .returned (.bool true) ∧ Below w.heap.size w w' := by
  have HTA := Lib.hid h; have HTB := Lib.hid h'
  obtain ⟨k0, n0, s, l, A, c, rfl, rfl, ok, hl⟩ := h.open_
  obtain ⟨k', n', s', l', A', c', rfl, rfl, ok', hl'⟩ := h'.open_
  clear h h' ok ok' hl hl'
  obtain ⟨w1, hw1⟩ : ∃ w1, (w.alloc (.cells #[.int .i64 k0, .int .i64 n0, .string s, .slice A l.length c] 24)).alloc (.cells #[.int .i64 k', .int .i64 n', .string s', .slice A' l'.length c'] 24) = w1 := ⟨_, rfl⟩
  have hz1 : w1.heap.size = w.heap.size + 2 := by rw [← hw1]; simp
  have HR := Lib.hid (show Below w.heap.size w w1 from by rw [← hw1]; exact ballocs (ballocs (Below.refl w.heap.size w) _) _)
  have HGa := Lib.hid (show Blk w1 w.heap.size 24 #[.int .i64 k0, .int .i64 n0, .string s, .slice A l.length c] from by rw [← hw1]; exact (Blk.new _ _ _).alloc _)
  have HGb := Lib.hid (show Blk w1 (w.heap.size + 1) 24 #[.int .i64 k', .int .i64 n', .string s', .slice A' l'.length c'] from by rw [← hw1, ← World.size_alloc w (.cells #[.int .i64 k0, .int .i64 n0, .string s, .slice A l.length c] 24)]; exact Blk.new _ _ _)
  have HTA1 := Lib.hid (HTA.out.later HR.out)
  have HTB1 := Lib.hid (HTB.out.later HR.out)
  have HW := Lib.hid hw1
  clear hw1
  have HLT := Lib.hid (fun t v w h => largeTerm_any t 400 v w (by omega) h)
  by_cases h1 : largeT (.mk k0 n0 s l) 400 = true
  · go_enter Try.func5, Try.ntmps5
    go_wp2_with fail
    rw [HW.out]
    refine (HLT.out _ _ _ HTA1.out).mono ?_
    rintro e w2 ⟨rfl, hb2⟩
    have HB2 := Lib.hid (bnext HR.out hb2)
    rw [h1]
    clear hb2
    go_wp2_with fail
    go_ret
    exact ⟨rfl, HB2.out⟩
  · have h1' : largeT (.mk k0 n0 s l) 400 = false := by simpa using h1
    by_cases h2 : largeT (.mk k' n' s' l') 400 = true
    · go_enter Try.func5, Try.ntmps5
      go_wp2_with fail
      rw [HW.out]
      refine (HLT.out _ _ _ HTA1.out).mono ?_
      rintro e w2 ⟨rfl, hb2⟩
      have HB2 := Lib.hid (bnext HR.out hb2)
      have HTB2 := Lib.hid (HTB1.out.later hb2)
      obtain ⟨r0, r1, r2, r3, _, _, _, _⟩ := (HGb.out.below hb2 HGb.out.lt).four
      rw [h1']
      clear hb2
      go_wp2_with fail
      refine (HLT.out _ _ _ HTB2.out).mono ?_
      rintro e w3 ⟨rfl, hb3⟩
      have HB3 := Lib.hid (bnext HB2.out hb3)
      rw [h2]
      clear hb3
      go_wp2_with fail
      go_ret
      exact ⟨rfl, HB3.out⟩
    · have h2' : largeT (.mk k' n' s' l') 400 = false := by simpa using h2
      clear h1 h2
      go_enter Try.func5, Try.ntmps5
      go_wp2_with fail
      rw [HW.out]
      refine (HLT.out _ _ _ HTA1.out).mono ?_
      rintro e w2 ⟨rfl, hb2⟩
      have HB2 := Lib.hid (bnext HR.out hb2)
      have HTB2 := Lib.hid (HTB1.out.later hb2)
      have HTA2 := Lib.hid (HTA1.out.later hb2)
      have HGa2 := Lib.hid (HGa.out.below hb2 HGa.out.lt)
      have HGb2 := Lib.hid (HGb.out.below hb2 HGb.out.lt)
      obtain ⟨r0, r1, r2, r3, _, _, _, _⟩ := HGb2.out.four
      have hz2 := hb2.size
      rw [h1']
      clear hb2
      go_wp2_with fail
      refine (HLT.out _ _ _ HTB2.out).mono ?_
      rintro e w3 ⟨rfl, hb3⟩
      have HB3 := Lib.hid (bnext HB2.out hb3)
      have HTB3 := Lib.hid (HTB2.out.later hb3)
      have HTA3 := Lib.hid (HTA2.out.later hb3)
      have HGa3 := Lib.hid (HGa2.out.below hb3 HGa2.out.lt)
      have HGb3 := Lib.hid (HGb2.out.below hb3 HGb2.out.lt)
      obtain ⟨p0, p1, p2, p3, _, _, _, _⟩ := HGa3.out.four
      obtain ⟨s0, s1, s2, s3, _, _, _, _⟩ := HGb3.out.four
      have hz3 := hb3.size
      rw [h2']
      clear hb3 r0 r1 r2 r3
      go_wp2_with fail
      have HCP := Lib.hid (fun t v w (hn : nodes t ≤ 1048576) h => copyTerm_any t hn v w h)
      have hna : nodes (.mk k0 n0 s l) ≤ 1048576 := nodes_of_small h1' (by omega)
      have hnb : nodes (.mk k' n' s' l') ≤ 1048576 := nodes_of_small h2' (by omega)
      have ea : eqT (.mk k0 n0 s l) (.mk k0 n0 s l) = true := eqT_iff.2 rfl
      have eb : eqT (.mk k' n' s' l') (.mk k' n' s' l') = true := eqT_iff.2 rfl
      have hundef : ∀ k, (undef : Value) ≠ ptr k := fun k h => by cases h
      refine wp_region_by (by kernel_rfl) (by kernel_rfl) (fun L a' wx => ∃ x5 x6 x14 x15 x16 x17, a' = { tmps := #[.agg #[.int .i64 k0, .int .i64 n0, .string s, .slice A l.length c], .agg #[.int .i64 k', .int .i64 n', .string s', .slice A' l'.length c'], .pointer (some ⟨w.heap.size, 0, none⟩), .pointer (some ⟨w.heap.size + 1, 0, none⟩), .bool false, x5, x6, undef, .agg #[.int .i64 k0, .int .i64 n0, .string s, .slice A l.length c], .bool false, .bool false, .agg #[.int .i64 k', .int .i64 n', .string s', .slice A' l'.length c'], .bool false, .bool false, x14, x15, x16, x17, undef, undef, undef, undef, undef, undef, undef, undef, undef, undef, undef, undef, undef, undef, undef, undef, undef, undef, undef, undef, undef, undef, undef, undef, undef, undef, undef, undef, undef, undef, undef, undef, undef, undef, undef, undef, undef, undef, undef, undef], defers := [] } ∧ Below w3.heap.size w3 wx ∧ (L 0 = true → x14 = .agg #[.int .i64 k0, .int .i64 n0, .string s, .slice A l.length c]) ∧ (L 2 = true → x16 = .agg #[.int .i64 k', .int .i64 n', .string s', .slice A' l'.length c']) ∧ Half w3.heap.size (.mk k0 n0 s l) (L 1) (L 4) (L 6) x15 x5 x6 wx ∧ Half w3.heap.size (.mk k' n' s' l') (L 3) (L 5) (L 7) x17 x6 x5 wx) ?_ ?_ ?_
      · exact ⟨undef, undef, undef, undef, undef, undef, rfl, btodrew (Below.refl _ _), nofun, nofun, Half.start _ _ _ hundef, Half.start _ _ _ hundef⟩
      · rintro L a' wx ⟨x5, x6, x14, x15, x16, x17, rfl, hb, h14, h16, h5, h6⟩ hL
        have e1 := hL 1 (by decide); have e2 := hL 3 (by decide); have e3 := hL 4 (by decide); have e4 := hL 5 (by decide); have e5 := hL 6 (by decide); have e6 := hL 7 (by decide)
        rw [e1, e3, e5] at h5
        rw [e2, e4, e6] at h6
        obtain rfl := h14 (hL 0 (by decide))
        obtain rfl := h16 (hL 2 (by decide))
        obtain ⟨g5, A5, c5, rfl, hg5, rfl, q5, ta5⟩ := h5.done
        obtain ⟨g6, A6, c6, rfl, hg6, rfl, q6, ta6⟩ := h6.done
        dsimp only [tv, Tm.k_mk, Tm.n_mk, Tm.s_mk, Tm.l_mk] at ta5 ta6 q5 q6
        dsimp only [tv, Tm.k_mk, Tm.n_mk, Tm.s_mk, Tm.l_mk]
        have HB4 := Lib.hid (bnext HB3.out hb)
        have HTA4 := Lib.hid (HTA3.out.later hb)
        have HTB4 := Lib.hid (HTB3.out.later hb)
        have HTX4 := Lib.hid ta5
        have HTY4 := Lib.hid ta6
        have HGa4 := Lib.hid (HGa3.out.below hb HGa3.out.lt)
        have HGb4 := Lib.hid (HGb3.out.below hb HGb3.out.lt)
        have HGx4 := Lib.hid q5
        have HGy4 := Lib.hid q6
        clear h5 h6 hb h14 h16 ta5 ta6 q5 q6 p0 p1 p2 p3 s0 s1 s2 s3 hL e1 e2 e3 e4 e5 e6
        have HS := Lib.hid (show ∀ wx', Below wx.heap.size wx wx' → (Below wx.heap.size wx wx' ∧ wx'.cell? ⟨w.heap.size, 0, none⟩ = some (.int .i64 k0) ∧ wx'.cell? ⟨w.heap.size, 1, none⟩ = some (.int .i64 n0) ∧ wx'.cell? ⟨w.heap.size, 2, none⟩ = some (.string s) ∧ wx'.cell? ⟨w.heap.size, 3, none⟩ = some (.slice A l.length c) ∧ wx'.cell? ⟨w.heap.size + 1, 0, none⟩ = some (.int .i64 k') ∧ wx'.cell? ⟨w.heap.size + 1, 1, none⟩ = some (.int .i64 n') ∧ wx'.cell? ⟨w.heap.size + 1, 2, none⟩ = some (.string s') ∧ wx'.cell? ⟨w.heap.size + 1, 3, none⟩ = some (.slice A' l'.length c') ∧ wx'.cell? ⟨g5, 0, none⟩ = some (.int .i64 k0) ∧ wx'.cell? ⟨g5, 1, none⟩ = some (.int .i64 n0) ∧ wx'.cell? ⟨g5, 2, none⟩ = some (.string s) ∧ wx'.cell? ⟨g5, 3, none⟩ = some (.slice A5 l.length c5) ∧ wx'.cell? ⟨g6, 0, none⟩ = some (.int .i64 k') ∧ wx'.cell? ⟨g6, 1, none⟩ = some (.int .i64 n') ∧ wx'.cell? ⟨g6, 2, none⟩ = some (.string s') ∧ wx'.cell? ⟨g6, 3, none⟩ = some (.slice A6 l'.length c6)) from fun wx' hb => by
          obtain ⟨p0, p1, p2, p3, _, _, _, _⟩ := (HGa4.out.below hb HGa4.out.lt).four
          obtain ⟨s0, s1, s2, s3, _, _, _, _⟩ := (HGb4.out.below hb HGb4.out.lt).four
          obtain ⟨t0, t1, t2, t3, _, _, _, _⟩ := (HGx4.out.below hb HGx4.out.lt).four
          obtain ⟨u0, u1, u2, u3, _, _, _, _⟩ := (HGy4.out.below hb HGy4.out.lt).four
          exact ⟨hb, p0, p1, p2, p3, s0, s1, s2, s3, t0, t1, t2, t3, u0, u1, u2, u3⟩)
        go_wp2_with fail
        go_region_held3 (fun wx' => Below wx.heap.size wx wx' ∧ wx'.cell? ⟨w.heap.size, 0, none⟩ = some (.int .i64 k0) ∧ wx'.cell? ⟨w.heap.size, 1, none⟩ = some (.int .i64 n0) ∧ wx'.cell? ⟨w.heap.size, 2, none⟩ = some (.string s) ∧ wx'.cell? ⟨w.heap.size, 3, none⟩ = some (.slice A l.length c) ∧ wx'.cell? ⟨w.heap.size + 1, 0, none⟩ = some (.int .i64 k') ∧ wx'.cell? ⟨w.heap.size + 1, 1, none⟩ = some (.int .i64 n') ∧ wx'.cell? ⟨w.heap.size + 1, 2, none⟩ = some (.string s') ∧ wx'.cell? ⟨w.heap.size + 1, 3, none⟩ = some (.slice A' l'.length c') ∧ wx'.cell? ⟨g5, 0, none⟩ = some (.int .i64 k0) ∧ wx'.cell? ⟨g5, 1, none⟩ = some (.int .i64 n0) ∧ wx'.cell? ⟨g5, 2, none⟩ = some (.string s) ∧ wx'.cell? ⟨g5, 3, none⟩ = some (.slice A5 l.length c5) ∧ wx'.cell? ⟨g6, 0, none⟩ = some (.int .i64 k') ∧ wx'.cell? ⟨g6, 1, none⟩ = some (.int .i64 n') ∧ wx'.cell? ⟨g6, 2, none⟩ = some (.string s') ∧ wx'.cell? ⟨g6, 3, none⟩ = some (.slice A6 l'.length c6)) (first
          | exact HS.out _ (btodrew (Below.refl _ _))
          | exact HS.out _ hbz
          | assumption) (first
          | (go_at_call 28
             have hby := And.left (by assumption)
             refine (check_any _ _ _ (HTX4.out.later hby) hna).mono ?_
             rintro e wz ⟨rfl, hbz0⟩
             have hbz := bnext hby hbz0)
          | (go_at_call 29
             have hby := And.left (by assumption)
             refine (rcheck_any _ _ _ (HTA4.out.later hby) hna).mono ?_
             rintro e wz ⟨rfl, hbz0⟩
             have hbz := bnext hby hbz0)
          | (go_at_call 30
             have hby := And.left (by assumption)
             refine (words_any _ _ _ (HTX4.out.later hby) hna).mono ?_
             rintro e wz ⟨rfl, hbz0⟩
             have hbz := bnext hby hbz0)
          | (go_at_call 31
             have hby := And.left (by assumption)
             refine (rwords_any _ hna _ _ (HTA4.out.later hby)).mono ?_
             rintro e wz ⟨rfl, hbz0⟩
             have hbz := bnext hby hbz0)
          | (go_at_call 32
             have hmark := HMK
             have hby := And.left (by assumption)
             refine (same_any _ _ _ _ _ (HTX4.out.later hby) (HTA4.out.later hby) hna).mono ?_
             rintro e wz ⟨rfl, hbz0⟩
             rw [ea]
             have hbz := bnext hby hbz0)
          | (go_at_call 32
             have HMK := trivial
             have hby := And.left (by assumption)
             refine (same_any _ _ _ _ _ (HTX4.out.later hby) (HTY4.out.later hby) hna).mono ?_
             rintro e wz ⟨rfl, hbz0⟩
             have hbz := bnext hby hbz0)
          | (go_at_call 33
             have hby := And.left (by assumption)
             refine (rsame_any _ _ _ _ _ (HTA4.out.later hby) (HTB4.out.later hby)).mono ?_
             rintro e wz ⟨rfl, hbz0⟩
             have hbz := bnext hby hbz0))
        have hb5 := And.left (by assumption)
        obtain ⟨_, p0, p1, p2, p3, s0, s1, s2, s3, t0, t1, t2, t3, u0, u1, u2, u3⟩ := HS.out _ hb5
        have HB5 := Lib.hid hb5
        clear hb5
        go_wp2_with fail
        refine (sameTerm_any _ _ _ _ _ (HTX4.out.later HB5.out) (HTA4.out.later HB5.out)).mono ?_
        rintro e w5 ⟨rfl, hb6⟩
        rw [ea]
        have HB6 := Lib.hid (bnext HB5.out hb6)
        clear hb6 p0 p1 p2 p3 s0 s1 s2 s3 t0 t1 t2 t3 u0 u1 u2 u3
        obtain ⟨_, p0, p1, p2, p3, s0, s1, s2, s3, t0, t1, t2, t3, u0, u1, u2, u3⟩ := HS.out _ HB6.out
        go_wp2_with fail
        refine (sameTerm_any _ _ _ _ _ (HTY4.out.later HB6.out) (HTB4.out.later HB6.out)).mono ?_
        rintro e w6 ⟨rfl, hb7⟩
        rw [eb]
        have HB7 := Lib.hid (bnext HB6.out hb7)
        clear hb7 p0 p1 p2 p3 s0 s1 s2 s3 t0 t1 t2 t3 u0 u1 u2 u3
        go_wp2_with fail
        refine (awake_any _).mono ?_
        rintro e w7 ⟨rfl, hb8⟩
        have HB8 := Lib.hid (bnext HB4.out (bnext HB7.out hb8))
        clear hb8
        go_wp2_with fail
        go_ret
        exact ⟨rfl, HB8.out⟩
      · rintro i o ho L a' wx ⟨x5, x6, x14, x15, x16, x17, rfl, hb, h14, h16, h5, h6⟩ hi hdep K hK
        rcases i with _ | _ | _ | _ | _ | _ | _ | _ | i
        · obtain rfl := Option.some.inj ho
          obtain ⟨a0, a1, a2, a3, _, _, _, _⟩ := (HGa3.out.below hb HGa3.out.lt).four
          go_simp
          exact hK _ _ ⟨x5, x6, _, x15, x16, x17, rfl, hb, fun _ => rfl, by simpa [upto] using h16, by simpa [upto] using h5, by simpa [upto] using h6⟩
        · obtain rfl := Option.some.inj ho
          obtain rfl := h14 (hdep ⟨0, .data⟩ (by simp) rfl)
          rw [hi] at h5
          go_simp
          refine (HCP.out (.mk k0 n0 s l) _ _ hna (HTA3.out.later hb)).mono ?_
          rintro e w4 ⟨v4, rfl, ht4, hb4⟩
          exact hK _ _ ⟨x5, x6, _, v4, x16, x17, rfl, bnext hb hb4, fun _ => rfl, by simpa [upto] using h16, by simpa [upto] using h5.call hb.size h6.lt hb4 ht4, by simpa [upto] using h6.later hb4⟩
        · obtain rfl := Option.some.inj ho
          obtain ⟨a0, a1, a2, a3, _, _, _, _⟩ := (HGb3.out.below hb HGb3.out.lt).four
          go_simp
          exact hK _ _ ⟨x5, x6, x14, x15, _, x17, rfl, hb, by simpa [upto] using h14, fun _ => rfl, by simpa [upto] using h5, by simpa [upto] using h6⟩
        · obtain rfl := Option.some.inj ho
          obtain rfl := h16 (hdep ⟨2, .data⟩ (by simp) rfl)
          rw [hi] at h6
          go_simp
          refine (HCP.out (.mk k' n' s' l') _ _ hnb (HTB3.out.later hb)).mono ?_
          rintro e w4 ⟨v4, rfl, ht4, hb4⟩
          exact hK _ _ ⟨x5, x6, x14, x15, _, v4, rfl, bnext hb hb4, by simpa [upto] using h14, fun _ => rfl, by simpa [upto] using h5.later hb4, by simpa [upto] using h6.call hb.size h5.lt hb4 ht4⟩
        · obtain rfl := Option.some.inj ho
          rw [hi] at h5
          go_simp
          exact hK _ _ ⟨_, x6, x14, x15, x16, x17, rfl, ballocs hb _, by simpa [upto] using h14, by simpa [upto] using h16, by simpa [upto] using h5.mine hb.size h6.lt, by simpa [upto] using h6.other _⟩
        · obtain rfl := Option.some.inj ho
          rw [hi] at h6
          go_simp
          exact hK _ _ ⟨x5, _, x14, x15, x16, x17, rfl, ballocs hb _, by simpa [upto] using h14, by simpa [upto] using h16, by simpa [upto] using h5.other _, by simpa [upto] using h6.mine hb.size h5.lt⟩
        · obtain rfl := Option.some.inj ho
          have d1 := hdep ⟨1, .data⟩ (by simp) rfl
          have d4 := hdep ⟨4, .data⟩ (by simp) rfl
          rw [d1, d4] at h5
          obtain ⟨A4, c4, rfl, _⟩ := h5.told rfl
          obtain ⟨g, rfl, hg1, _, _, y0, y1, y2, y3, hg2, _⟩ := h5.box rfl
          obtain ⟨a0, a1, a2, a3, f0, f1, f2, f3⟩ := hg2.four
          unfold tv at h5
          dsimp only [tv, Tm.k_mk, Tm.n_mk, Tm.s_mk, Tm.l_mk]
          go_simp
          exact hK _ _ ⟨_, x6, x14, _, x16, x17, rfl, put4_below hb hg1 _ _ _ _, by simpa [upto] using h14, by simpa [upto] using h16, by simpa [upto, d1, d4, put4] using h5.put, by simpa [upto, put4] using h6.aside⟩
        · obtain rfl := Option.some.inj ho
          have d1 := hdep ⟨3, .data⟩ (by simp) rfl
          have d4 := hdep ⟨5, .data⟩ (by simp) rfl
          rw [d1, d4] at h6
          obtain ⟨A4, c4, rfl, _⟩ := h6.told rfl
          obtain ⟨g, rfl, hg1, _, _, y0, y1, y2, y3, hg2, _⟩ := h6.box rfl
          obtain ⟨a0, a1, a2, a3, f0, f1, f2, f3⟩ := hg2.four
          unfold tv at h6
          dsimp only [tv, Tm.k_mk, Tm.n_mk, Tm.s_mk, Tm.l_mk]
          go_simp
          exact hK _ _ ⟨x5, _, x14, x15, x16, _, rfl, put4_below hb hg1 _ _ _ _, by simpa [upto] using h14, by simpa [upto] using h16, by simpa [upto, put4] using h5.aside, by simpa [upto, d1, d4, put4] using h6.put⟩
        · simp at ho
theorem contract {H : Type} {enc : TypeId × Value → H} (W : World) {base : Nat} {r r' : Reach} {b b' : Nat} {hd hd' : Bool} {v0 v1 : Value} {d0 d1 : DataW H} {p0 p1 : List MemPlace}
    (o0 : Value.okWide Try.prog W r b 24 v0) (h0 : DataW.Trod enc Try.prog W base (fun _ => true) hd 24 v0 d0 p0) (o1 : Value.okWide Try.prog W r' b' 24 v1) (h1 : DataW.Trod enc Try.prog W base (fun _ => true) hd' 24 v1 d1 p1) {Q R : Prop} (_ : Q) (_ : R) :
    Calls Try.prog 5 #[v0, v1] W fun e w' => e = .returned (.bool true) ∧ Below W.heap.size W w' := by
  obtain ⟨a, ha⟩ := open_t o0 h0
  obtain ⟨b, hb⟩ := open_t o1 h1
  exact walk a b v0 v1 W ha hb

theorem own : ownKnob Try.prog.godebug = none := by kernel_rfl
theorem laidOut : laidOutB Try.prog = true := by kernel_rfl
theorem readable : ∀ t ∈ Try.f5.params.toList, Try.prog.readableRec t = true ∧ t < Try.prog.types.size := by
  rw [show Try.f5.params = #[24, 24] from Try.params5]
  intro t h
  simp only [List.mem_cons, List.not_mem_nil, or_false] at h
  rcases h with rfl | rfl
  · exact ⟨by kernel_rfl, of_decide_eq_true (by kernel_rfl)⟩
  · exact ⟨by kernel_rfl, of_decide_eq_true (by kernel_rfl)⟩
set_option maxRecDepth 100000 in
theorem lifted (os : Os) (started : os.Started) (H : Type) (enc : TypeId × Value → H) :
    ReturnsInHanded {} Try.checked os 5 .any (Rows.termChecksSpec.pre6 enc Try.prog Try.f5 Rows.termChecksRow.domain false) (Rows.termChecksSpec.post enc Try.prog Try.f5 false true false false) := by
  refine K.law_lift (C := Try.checked) (b := 4) own started (by kernel_rfl) Try.func5
    (ChangeSpec.witness6 (enc := enc) (C := Try.checked) false ⟨#[], #[.agg #[.int .i64 0, .int .i64 0, .string .empty, .slice none 0 0], .agg #[.int .i64 0, .int .i64 0, .string .empty, .slice none 0 0]], []⟩ 8 (by kernel_rfl) (by kernel_rfl) (by kernel_rfl) (by kernel_rfl)) laidOut readable rfl rfl Try.underlying4 ?_ ?_
  · intro ds hds
    rw [show Try.f5.params = #[24, 24] from Try.params5] at hds
    match ds, hds with
    | [d0, d1], _ => rfl
  · intro W base args ds p hval hA hlt hsz
    rw [show Try.checked.prog = Try.prog from rfl] at hval hA hsz
    rw [show Try.f5.params = #[24, 24] from Try.params5] at hA hval hsz
    obtain ⟨v0, vs0, d0, ds0, p0, q0, hargs, rfl, rfl, h0, r0⟩ := trodAll_cons hA
    obtain ⟨v1, vs1, d1, ds1, p1, q1, rfl, rfl, rfl, h1, r1⟩ := trodAll_cons r0
    obtain ⟨rfl, rfl, rfl⟩ := trodAll_nil r1
    obtain rfl : args = #[v0, v1] := by cases args; simp_all
    exact contract W (hval 0 24 v0 rfl rfl) h0 (hval 1 24 v1 rfl rfl) h1 (fun x hx => hlt x hx) hsz

theorem over : Rows.termChecksRow.holds Try.pinned (OpenSpec.ofChange Rows.termChecksSpec) :=
  OpenClaim.holds_of_wide 5 Try.f5 rfl rfl rfl rfl rfl rfl rfl ⟨rfl, rfl, rfl, rfl, rfl⟩ rfl rfl rfl rfl rfl (by kernel_rfl) Try.func5 (by kernel_rfl)
    (of_decide_eq_true (by kernel_rfl)) (by unfold Func.isWrapper; rw [if_neg (of_decide_eq_false (by kernel_rfl))]; exact ⟨rfl, rfl⟩)
    (fun os started H enc _ => lifted os started H enc)

/-- THE STATEMENT -/
theorem proved : Rows.TermChecksSaid := over
#print axioms proved
end Go.Proofs.Ytiknelmaepkdkaa.TermChecks
