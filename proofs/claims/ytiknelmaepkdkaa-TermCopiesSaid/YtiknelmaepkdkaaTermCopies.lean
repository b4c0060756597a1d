/- The law TermCopies returns true for every input: a copy is the same, shares nothing, and a term turned anywhere is another. -/
import Derived.Test.YtiknelmaepkdkaaTermKnown
import Derived.Test.YtiknelmaepkdkaaTurned
import Derived.Test.YtiknelmaepkdkaaSame
import Derived.Test.YtiknelmaepkdkaaOpenTm
import Derived.Test.YtiknelmaepkdkaaSmall
import Derived.Test.YtiknelmaepkdkaaPick
import Derived.Test.YtiknelmaepkdkaaInv
import Derived.Test.YtiknelmaepkdkaaOne
import Derived.Deep.RegionHeld3
namespace Go.Proofs.Ytiknelmaepkdkaa.TermCopies
open Go.RowKit K
open Go.ChangeShapes Go.WideShapes Go.ChangeAt
set_option linter.unusedVariables false
set_option linter.unusedSimpArgs false

set_option maxRecDepth 100000 in
set_option maxHeartbeats 16000000 in
theorem walk (t : Tm) (wh : Int) (v : Value) (w : World) (h : TA w t v) (hwf : (Lit.int .i64 wh).wf = true) :
    Calls Try.prog 8 #[v, .int .i64 wh] w fun e w' => e = .returned (.bool true) ∧ Below w.heap.size w w' := by
  have hta := h
  obtain ⟨k, n, s, l, A, c, rfl, rfl, ok, hl⟩ := h.open_
  obtain ⟨T, hT⟩ : ∃ T, Tm.mk k n s l = T := ⟨_, rfl⟩
  have hTl : T.l = l := by rw [← hT]; rfl
  have hTk : T.k = k ∧ T.n = n ∧ T.s = s := by rw [← hT]; exact ⟨rfl, rfl, rfl⟩
  rw [hT] at hta
  have HT0 := Lib.hid hta
  have HTE := Lib.hid (And.intro hTk hTl)
  obtain ⟨W1, hW1⟩ : ∃ W1, w.alloc (.cells #[.int .i64 k, .int .i64 n, .string s, .slice A l.length c] 24) = W1 := ⟨_, rfl⟩
  have HB1 := Lib.hid (show Below w.heap.size w W1 from by rw [← hW1]; exact ballocs (Below.refl _ _) _)
  have HG1 := Lib.hid (show Blk W1 w.heap.size 24 #[.int .i64 k, .int .i64 n, .string s, .slice A l.length c] from by rw [← hW1]; exact Blk.new _ _ _)
  have HW := Lib.hid hW1
  have HWF := Lib.hid hwf
  clear hta ok hl h hwf hTl hTk hT hW1
  go_enter Try.func8, Try.ntmps8
  go_wp2_with fail
  rw [HW.out]
  refine (TermKnown.known W1).mono ?_
  rintro e w2 ⟨rfl, hb⟩
  have HB2 := Lib.hid (bnext HB1.out hb)
  obtain ⟨p0, p1, p2, p3, _, _, _, _⟩ := (HG1.out.below hb HG1.out.lt).four
  have HG2 := Lib.hid (HG1.out.below hb HG1.out.lt)
  have HLT := Lib.hid (largeTerm_any T 400 _ w2 (by omega) (HT0.out.later HB2.out))
  clear hb
  go_wp2_with fail
  refine HLT.out.mono ?_
  rintro e w3 ⟨rfl, hb⟩
  have HB3 := Lib.hid (bnext HB2.out hb)
  have HG3 := Lib.hid (HG2.out.below hb HG2.out.lt)
  obtain ⟨p0, p1, p2, p3, _, _, _, _⟩ := HG3.out.four
  clear hb HLT HG2 p0 p1 p2 p3
  obtain ⟨p0, p1, p2, p3, _, _, _, _⟩ := HG3.out.four
  cases hlg : largeT T 400 with
  | true =>
    go_wp2_with fail
    go_ret
    exact ⟨ret1_b rfl, HB3.out⟩
  | false =>
    have hn4 : nodes T ≤ 400 := small_nodes hlg (Nat.le_refl _)
    have HCP := Lib.hid (copyTermW_any T (by omega) _ w3 (HT0.out.later HB3.out))
    clear hlg
    go_wp2_with fail
    refine HCP.out.mono ?_
    rintro e w4 ⟨v4, rfl, hx4, hb4, hw4⟩
    obtain ⟨A4, c4, rfl, ok4, hl4⟩ := hx4.inv
    unfold tv at hx4 hw4 ⊢
    have HX4 := Lib.hid hx4
    have HW4 := Lib.hid hw4
    have HB34 := Lib.hid hb4
    obtain ⟨W5, hW5⟩ : ∃ W5, w4.alloc (.cells #[.int .i64 T.k, .int .i64 T.n, .string T.s, .slice A4 T.l.length c4] 24) = W5 := ⟨_, rfl⟩
    have HB45 := Lib.hid (show Below w4.heap.size w4 W5 from by rw [← hW5]; exact ballocs (Below.refl _ _) _)
    have HG5 := Lib.hid (show Blk W5 w4.heap.size 24 #[.int .i64 T.k, .int .i64 T.n, .string T.s, .slice A4 T.l.length c4] from by rw [← hW5]; exact Blk.new _ _ _)
    have HZ5 := Lib.hid (show W5.heap.size = w4.heap.size + 1 from by rw [← hW5]; simp)
    have HW5 := Lib.hid hW5
    clear hx4 hw4 hb4 ok4 hl4 HCP hW5 p0 p1 p2 p3
    go_wp2_with fail
    rw [HW5.out]
    refine (copyT_any T (by omega) _ W5 (TA.later (show TA w4 T _ from HX4.out.mono (fun b hb => hb.2)) HB45.out)).mono ?_
    rintro e w6 ⟨v6, rfl, hx6, hb6, hw6⟩
    obtain ⟨A6, c6, rfl, ok6, hl6⟩ := hx6.inv
    unfold tv at hx6 ⊢
    obtain ⟨W7, hW7⟩ : ∃ W7, w6.alloc (.cells #[.int .i64 T.k, .int .i64 T.n, .string T.s, .slice A6 T.l.length c6] 24) = W7 := ⟨_, rfl⟩
    have hb67 : Below w6.heap.size w6 W7 := by rw [← hW7]; exact ballocs (Below.refl _ _) _
    have hz7 : W7.heap.size = w6.heap.size + 1 := by rw [← hW7]; simp
    have HG7 := Lib.hid (show Blk W7 w6.heap.size 24 #[.int .i64 T.k, .int .i64 T.n, .string T.s, .slice A6 T.l.length c6] from by rw [← hW7]; exact Blk.new _ _ _)
    have hb37 : Below w3.heap.size w3 W7 := bnext (bnext HB34.out (HB45.out.trans (hb6.mono HB45.out.size))) hb67
    have hb47 : Below w4.heap.size w4 W7 := bnext (HB45.out.trans (hb6.mono HB45.out.size)) hb67
    have hb57 : Below W5.heap.size W5 W7 := bnext hb6 hb67
    have HB7 := Lib.hid (bnext HB3.out hb37)
    have HGa := Lib.hid (HG3.out.below hb37 HG3.out.lt)
    have HGo := Lib.hid (HG5.out.below hb57 HG5.out.lt)
    have HXt := Lib.hid (show TAt W7 (· < w.heap.size) T _ from TAt.under HT0.out HB7.out (fun b h => h))
    have HXc := Lib.hid (show TAt W7 (Fr W5 w6) T _ from hx6.under hb67 (fun b hb => hb.2))
    have HWo := Lib.hid (HW4.out.later hb47)
    have hs3 := HB3.out.size
    have HSZ := Lib.hid (show w.heap.size < w3.heap.size ∧ w3.heap.size ≤ w4.heap.size ∧ W5.heap.size = w4.heap.size + 1 ∧ W5.heap.size ≤ w6.heap.size ∧ W7.heap.size = w6.heap.size + 1 from ⟨HG3.out.lt, HB34.out.size, HZ5.out, hb6.size, hz7⟩)
    have HW7 := Lib.hid hW7
    have e1 : eqT T T = true := eqT_self T
    obtain ⟨p0, p1, p2, p3, _, _, _, _⟩ := HGa.out.four
    obtain ⟨o0, o1, o2, o3, _, _, _, _⟩ := HGo.out.four
    obtain ⟨q0, q1, q2, q3, _, _, _, _⟩ := HG7.out.four
    have pe0 := p0; have pe1 := p1; have pe2 := p2; have pe3 := p3
    rw [← hW7] at pe0 pe1 pe2 pe3
    clear hx6 hb6 hw6 ok6 hl6 hW7 hb67 hb37 hb47 hb57 hz7 hs3 HX4 HW4 HB34 HB45 HG5 HG3 HZ5 HB1 HG1 HB2 HB3
    have HS1 := Lib.hid (same_any T T _ _ W7 (HXc.out.mono (fun b hb => by have := HSZ.out; have := hb.2; omega)) (HXt.out.mono (fun b hb => by have := HSZ.out; omega)) (by omega))
    rw [e1] at HS1
    go_wp2_with fail
    rw [HW7.out]
    clear HW7 HW5 HW pe0 pe1 pe2 pe3
    refine HS1.out.mono ?_
    rintro e w8 ⟨rfl, hb8⟩
    have a0 := (hb8.cell (p := ⟨w.heap.size, 0, none⟩) HGa.out.lt).trans p0
    have a1 := (hb8.cell (p := ⟨w.heap.size, 1, none⟩) HGa.out.lt).trans p1
    have a2 := (hb8.cell (p := ⟨w.heap.size, 2, none⟩) HGa.out.lt).trans p2
    have a3 := (hb8.cell (p := ⟨w.heap.size, 3, none⟩) HGa.out.lt).trans p3
    have u0 := (hb8.cell (p := ⟨w6.heap.size, 0, none⟩) HG7.out.lt).trans q0
    have u1 := (hb8.cell (p := ⟨w6.heap.size, 1, none⟩) HG7.out.lt).trans q1
    have u2 := (hb8.cell (p := ⟨w6.heap.size, 2, none⟩) HG7.out.lt).trans q2
    have u3 := (hb8.cell (p := ⟨w6.heap.size, 3, none⟩) HG7.out.lt).trans q3
    have HB8 := Lib.hid hb8
    have HS2 := Lib.hid (sameTerm_any T T _ _ w8 (TA.later (show TA W7 T _ from HXc.out.mono (fun b hb => by have := HSZ.out; have := hb.2; omega)) hb8) (TA.later (show TA W7 T _ from HXt.out.mono (fun b hb => by have := HSZ.out; omega)) hb8))
    rw [e1] at HS2
    clear hb8 p0 p1 p2 p3 q0 q1 q2 q3 o0 o1 o2 o3 HS1
    go_wp2_with fail
    refine HS2.out.mono ?_
    rintro e w9 ⟨rfl, hb9⟩
    have HB9 := Lib.hid (bnext HB8.out hb9)
    obtain ⟨o0, o1, o2, o3, _, _, _, _⟩ := (HGo.out.below HB9.out HGo.out.lt).four
    have HOV := Lib.hid (overT_any _ _ w9 (Fr w3 w4) (HWo.out.later HB9.out) (fun b hb => by have := HSZ.out; have := HB9.out.size; have := hb.2; omega))
    clear hb9 HS2 HB8 a0 a1 a2 a3 u0 u1 u2 u3
    go_wp2_with fail
    refine HOV.out.mono ?_
    rintro e w10 ⟨rfl, ho⟩
    have hk10 : Keep (Fr w3 w4) W7 w10 := (Keep.new (F := Fr w3 w4) HB9.out).trans ho.1 (fun _ _ h => h)
    have HB10 := Lib.hid (show Below w.heap.size w w10 from (hk10.below HB7.out HB7.out.size (fun i hi h => by have := HSZ.out; have := h.1; omega)))
    have HGa2 := Lib.hid (HGa.out.keep hk10 (fun h => by have := HSZ.out; have := h.1; omega))
    have HGc2 := Lib.hid (HG7.out.keep hk10 (fun h => by have := HSZ.out; have := h.2; omega))
    have HXt2 := Lib.hid (show TA w10 T _ from (HXt.out.keepF hk10 (fun b hb => by have := HSZ.out; omega) (fun b hb h => by have := HSZ.out; have := h.1; omega)).mono (fun b hb => by have := HSZ.out; have := hk10.size; omega))
    have HXc2 := Lib.hid (show TA w10 T _ from (HXc.out.keepF hk10 (fun b hb => by have := HSZ.out; have := hb.2; omega) (fun b hb h => by have := HSZ.out; have := h.2; have := hb.1; omega)).mono (fun b hb => by have := HSZ.out; have := hk10.size; have := hb.2; omega))
    obtain ⟨p0, p1, p2, p3, _, _, _, _⟩ := HGa2.out.four
    obtain ⟨q0, q1, q2, q3, _, _, _, _⟩ := HGc2.out.four
    have HS3 := Lib.hid (sameTerm_any T T _ _ w10 HXc2.out HXt2.out)
    rw [e1] at HS3
    clear hk10 ho HOV o0 o1 o2 o3 HB9 HWo HXt HXc HGo HGa HG7 HB7
    go_wp2_with fail
    refine HS3.out.mono ?_
    rintro e w11 ⟨rfl, hb11⟩
    have HB11 := Lib.hid (bnext HB10.out hb11)
    have HGa3 := Lib.hid (HGa2.out.below hb11 HGa2.out.lt)
    have HGc3 := Lib.hid (HGc2.out.below hb11 HGc2.out.lt)
    have HXt3 := Lib.hid (HXt2.out.later hb11)
    have HXc3 := Lib.hid (HXc2.out.later hb11)
    clear hb11 p0 p1 p2 p3 q0 q1 q2 q3 HS3 HGa2 HGc2 HXt2 HXc2 HB10 HSZ
    go_wp2_with fail
    have hnd := nodes_pos T
    obtain ⟨m, hm⟩ : ∃ m, nodes T = m := ⟨_, rfl⟩
    obtain ⟨r, hr, hrm⟩ : ∃ r : Nat, pickN wh (m : Int) = (r : Int) ∧ r < m := by
      have := pickN_range (x := wh) (n := (m : Int)) (by omega)
      exact ⟨(pickN wh (m : Int)).toNat, by omega, by omega⟩
    have HPK := Lib.hid (fun w => pick_any wh (m : Int) HWF.out (WalkArith.wf_i64 (by omega)) w)
    rw [hr] at HPK
    have HPT := Lib.hid (show ∀ wx, Below w11.heap.size w11 wx → Calls Try.prog 40 #[.agg #[.int .i64 k, .int .i64 n, .string s, .slice A l.length c], .int .i64 400] wx fun e w' => e = .returned (.int .i64 (m : Int)) ∧ Below wx.heap.size wx w' from fun wx hb => by
      have h := parts_any T 400 _ wx (by omega) (HXt3.out.later hb)
      rw [show min (nodes T) (400 + 1) = m by omega] at h
      exact h)
    have HTU := Lib.hid (show ∀ wx, Below w11.heap.size w11 wx → _ from fun wx hb => turned_any T hn4 r (by omega) (.agg #[.int .i64 T.k, .int .i64 T.n, .string T.s, .slice A6 T.l.length c6]) wx w11.heap.size (TAt.under HXc3.out hb (fun b h => h)) hb.size)
    have HM := Lib.hid hm
    have hundef : ∀ k, undef ≠ ptr k := fun k h => by cases h
    clear hm hr
    refine wp_region_by (by kernel_rfl) (by kernel_rfl) (fun L a' wx => ∃ x8 x33 x34 x35 x36 x37 x38, a' = { tmps := #[.agg #[.int .i64 k, .int .i64 n, .string s, .slice A l.length c], .int .i64 wh, .pointer (some ⟨w.heap.size, 0, none⟩), undef, .bool false, .bool true, .pointer (some ⟨w4.heap.size, 0, none⟩), .pointer (some ⟨w6.heap.size, 0, none⟩), x8, .bool true, .agg #[.int .i64 k, .int .i64 n, .string s, .slice A l.length c], .bool false, undef, .agg #[.int .i64 k, .int .i64 n, .string s, .slice A l.length c], .agg #[.int .i64 T.k, .int .i64 T.n, .string T.s, .slice A4 T.l.length c4], .agg #[.int .i64 T.k, .int .i64 T.n, .string T.s, .slice A4 T.l.length c4], .agg #[.int .i64 T.k, .int .i64 T.n, .string T.s, .slice A6 T.l.length c6], .agg #[.int .i64 T.k, .int .i64 T.n, .string T.s, .slice A6 T.l.length c6], .agg #[.int .i64 k, .int .i64 n, .string s, .slice A l.length c], .bool true, .bool false, .bool false, .agg #[.int .i64 T.k, .int .i64 T.n, .string T.s, .slice A6 T.l.length c6], .agg #[.int .i64 k, .int .i64 n, .string s, .slice A l.length c], .bool true, .bool false, .bool false, .agg #[.int .i64 T.k, .int .i64 T.n, .string T.s, .slice A4 T.l.length c4], .tuple #[], .agg #[.int .i64 T.k, .int .i64 T.n, .string T.s, .slice A6 T.l.length c6], .agg #[.int .i64 k, .int .i64 n, .string s, .slice A l.length c], .bool true, .bool false, x33, x34, x35, x36, x37, x38, undef, undef, undef, undef, undef, undef, undef], defers := [] } ∧ Below w11.heap.size w11 wx ∧ (L 0 = true → x33 = .agg #[.int .i64 T.k, .int .i64 T.n, .string T.s, .slice A6 T.l.length c6]) ∧ (L 1 = true → x34 = .int .i64 wh) ∧ (L 2 = true → x35 = .agg #[.int .i64 k, .int .i64 n, .string s, .slice A l.length c]) ∧ (L 3 = true → x36 = .int .i64 (m : Int)) ∧ (L 4 = true → x37 = .int .i64 (r : Int)) ∧ One w11.heap.size (fun u => u ≠ T ∧ nodes u = nodes T) (L 5) (L 6) (L 7) x38 x8 wx) ?_ ?_ ?_
    · exact ⟨undef, undef, undef, undef, undef, undef, undef, rfl, btodrew (Below.refl _ _), nofun, nofun, nofun, nofun, nofun, One.start _ _ hundef⟩
    · rintro L a' wx ⟨x8, x33, x34, x35, x36, x37, x38, rfl, hb, h33, h34, h35, h36, h37, hO⟩ hL
      have e5 := hL 5 (by decide); have e6 := hL 6 (by decide); have e7 := hL 7 (by decide)
      rw [e5, e6, e7] at hO
      obtain rfl := h33 (hL 0 (by decide))
      obtain rfl := h34 (hL 1 (by decide))
      obtain rfl := h35 (hL 2 (by decide))
      obtain rfl := h36 (hL 3 (by decide))
      obtain rfl := h37 (hL 4 (by decide))
      obtain ⟨g8, u, A8, c8, rfl, _, ⟨hu1, hu2⟩, rfl, hg8, hu⟩ := hO.done
      unfold tv at hu ⊢
      obtain ⟨p0, p1, p2, p3, _, _, _, _⟩ := (HGa3.out.below hb HGa3.out.lt).four
      obtain ⟨q0, q1, q2, q3, _, _, _, _⟩ := hg8.four
      have HS4 := Lib.hid (same_any u T _ _ wx hu (HXt3.out.later hb) (by omega))
      rw [eqT_no.2 hu1] at HS4
      have HB12 := Lib.hid (bnext HB11.out hb)
      clear hO hb h33 h34 h35 h36 h37 hL e5 e6 e7 hu hu1 hu2 hg8
      go_wp2_with fail
      refine HS4.out.mono ?_
      rintro e w13 ⟨rfl, hb13⟩
      have HB13 := Lib.hid (bnext HB12.out hb13)
      clear hb13
      go_wp2_with fail
      go_ret
      exact ⟨ret1_b rfl, HB13.out⟩
    · rintro i o ho L a' wx ⟨x8, x33, x34, x35, x36, x37, x38, rfl, hb, h33, h34, h35, h36, h37, hO⟩ hi hdep K hK
      rcases i with _ | _ | _ | _ | _ | _ | _ | _ | i
      · obtain rfl := Option.some.inj ho
        obtain ⟨a0, a1, a2, a3, _, _, _, _⟩ := (HGc3.out.below hb HGc3.out.lt).four
        go_simp
        exact hK _ _ ⟨x8, _, x34, x35, x36, x37, x38, rfl, hb, fun _ => rfl, by simpa [upto] using h34, by simpa [upto] using h35, by simpa [upto] using h36, by simpa [upto] using h37, by simpa [upto] using hO⟩
      · obtain rfl := Option.some.inj ho
        go_simp
        exact hK _ _ ⟨x8, x33, _, x35, x36, x37, x38, rfl, hb, by simpa [upto] using h33, fun _ => rfl, by simpa [upto] using h35, by simpa [upto] using h36, by simpa [upto] using h37, by simpa [upto] using hO⟩
      · obtain rfl := Option.some.inj ho
        obtain ⟨a0, a1, a2, a3, _, _, _, _⟩ := (HGa3.out.below hb HGa3.out.lt).four
        go_simp
        exact hK _ _ ⟨x8, x33, x34, _, x36, x37, x38, rfl, hb, by simpa [upto] using h33, by simpa [upto] using h34, fun _ => rfl, by simpa [upto] using h36, by simpa [upto] using h37, by simpa [upto] using hO⟩
      · obtain rfl := Option.some.inj ho
        obtain rfl := h35 (hdep ⟨2, .data⟩ (by simp) rfl)
        go_simp
        refine (HPT.out wx hb).mono ?_
        rintro e w9 ⟨rfl, hb9⟩
        exact hK _ _ ⟨x8, x33, x34, _, _, x37, x38, rfl, bnext hb hb9, by simpa [upto] using h33, by simpa [upto] using h34, fun _ => rfl, fun _ => rfl, by simpa [upto] using h37, by simpa [upto] using hO.later hb9⟩
      · obtain rfl := Option.some.inj ho
        obtain rfl := h34 (hdep ⟨1, .data⟩ (by simp) rfl)
        obtain rfl := h36 (hdep ⟨3, .data⟩ (by simp) rfl)
        go_simp
        refine (HPK.out wx).mono ?_
        rintro e w9 ⟨rfl, rfl⟩
        exact hK _ _ ⟨x8, x33, _, x35, _, _, x38, rfl, hb, by simpa [upto] using h33, fun _ => rfl, by simpa [upto] using h35, fun _ => rfl, fun _ => rfl, by simpa [upto] using hO⟩
      · obtain rfl := Option.some.inj ho
        obtain rfl := h33 (hdep ⟨0, .data⟩ (by simp) rfl)
        obtain rfl := h37 (hdep ⟨4, .data⟩ (by simp) rfl)
        rw [hi] at hO
        go_simp
        refine (HTU.out wx hb).mono ?_
        rintro e w9 ⟨u, v9, rfl, hx9, hne, hnn, hb9⟩
        exact hK _ _ ⟨x8, _, x34, x35, x36, _, v9, rfl, bnext hb hb9, fun _ => rfl, by simpa [upto] using h34, by simpa [upto] using h35, by simpa [upto] using h36, fun _ => rfl, by simpa [upto] using hO.call hb.size hb9 hx9 ⟨hne, hnn⟩⟩
      · obtain rfl := Option.some.inj ho
        rw [hi] at hO
        go_simp
        exact hK _ _ ⟨_, x33, x34, x35, x36, x37, x38, rfl, ballocs hb _, by simpa [upto] using h33, by simpa [upto] using h34, by simpa [upto] using h35, by simpa [upto] using h36, by simpa [upto] using h37, by simpa [upto] using hO.mine hb.size⟩
      · obtain rfl := Option.some.inj ho
        have d5 := hdep ⟨5, .data⟩ (by simp) rfl
        have d6 := hdep ⟨6, .data⟩ (by simp) rfl
        rw [d5, d6] at hO
        obtain ⟨u, A4', c4', hP, rfl, _⟩ := hO.told rfl
        obtain ⟨g, rfl, hg1, _, y0, y1, y2, y3, hg2, _⟩ := hO.box rfl
        obtain ⟨a0, a1, a2, a3, f0, f1, f2, f3⟩ := hg2.four
        unfold tv at hO
        dsimp only [tv]
        go_simp
        exact hK _ _ ⟨_, x33, x34, x35, x36, x37, _, rfl, put4_below hb hg1 _ _ _ _, by simpa [upto] using h33, by simpa [upto] using h34, by simpa [upto] using h35, by simpa [upto] using h36, by simpa [upto] using h37, by simpa [upto, d5, d6, put4] using hO.put⟩
      · simp at ho

theorem contract {H : Type} {enc : TypeId × Value → H} (W : World) {base : Nat} {r r' : Reach} {b b' : Nat} {hd hd' : Bool} {v0 v1 : Value} {d0 d1 : DataW H} {p0 p1 : List MemPlace}
    (o0 : Value.okWide Try.prog W r b 24 v0) (h0 : DataW.Trod enc Try.prog W base (fun _ => true) hd 24 v0 d0 p0) (o1 : Value.okWide Try.prog W r' b' 3 v1) (h1 : DataW.Trod enc Try.prog W base (fun _ => true) hd' 3 v1 d1 p1) {Q R : Prop} (_ : Q) (_ : R) :
    Calls Try.prog 8 #[v0, v1] W fun e w' => e = .returned (.bool true) ∧ Below W.heap.size W w' := by
  obtain ⟨a, ha⟩ := open_t o0 h0
  obtain ⟨a1, rfl, _, _, w1⟩ := open_int Try.underlying3 o1 h1
  exact walk a a1 v0 W ha w1

theorem own : ownKnob Try.prog.godebug = none := by kernel_rfl
theorem laidOut : laidOutB Try.prog = true := by kernel_rfl
theorem readable : ∀ t ∈ Try.f8.params.toList, Try.prog.readableRec t = true ∧ t < Try.prog.types.size := by
  rw [show Try.f8.params = #[24, 3] from Try.params8]
  intro t h
  simp only [List.mem_cons, List.not_mem_nil, or_false] at h
  rcases h with rfl | rfl
  · exact ⟨by kernel_rfl, of_decide_eq_true (by kernel_rfl)⟩
  · exact ⟨by kernel_rfl, of_decide_eq_true (by kernel_rfl)⟩
set_option maxRecDepth 100000 in
theorem lifted (os : Os) (started : os.Started) (H : Type) (enc : TypeId × Value → H) :
    ReturnsInHanded {} Try.checked os 8 .any (Rows.termCopiesSpec.pre6 enc Try.prog Try.f8 Rows.termCopiesRow.domain false) (Rows.termCopiesSpec.post enc Try.prog Try.f8 false true false false) := by
  refine K.law_lift (C := Try.checked) (b := 4) own started (by kernel_rfl) Try.func8
    (ChangeSpec.witness6 (enc := enc) (C := Try.checked) false ⟨#[], #[.agg #[.int .i64 0, .int .i64 0, .string ⟨#[]⟩, .slice none 0 0], .int .i64 0], []⟩ 8 (by kernel_rfl) (by kernel_rfl) (by kernel_rfl) (by kernel_rfl)) laidOut readable rfl rfl Try.underlying4 ?_ ?_
  · intro ds hds
    rw [show Try.f8.params = #[24, 3] from Try.params8] at hds
    match ds, hds with
    | [d0, d1], _ => rfl
  · intro W base args ds p hval hA hlt hsz
    rw [show Try.checked.prog = Try.prog from rfl] at hval hA hsz
    rw [show Try.f8.params = #[24, 3] from Try.params8] at hA hval hsz
    obtain ⟨v0, vs0, d0, ds0, p0, q0, hargs, rfl, rfl, h0, r0⟩ := trodAll_cons hA
    obtain ⟨v1, vs1, d1, ds1, p1, q1, rfl, rfl, rfl, h1, r1⟩ := trodAll_cons r0
    obtain ⟨rfl, rfl, rfl⟩ := trodAll_nil r1
    obtain rfl : args = #[v0, v1] := by cases args; simp_all
    exact contract W (hval 0 24 v0 rfl rfl) h0 (hval 1 3 v1 rfl rfl) h1 (fun x hx => hlt x hx) hsz

theorem over : Rows.termCopiesRow.holds Try.pinned (OpenSpec.ofChange Rows.termCopiesSpec) :=
  OpenClaim.holds_of_wide 8 Try.f8 rfl rfl rfl rfl rfl rfl rfl ⟨rfl, rfl, rfl, rfl, rfl⟩ rfl rfl rfl rfl rfl (by kernel_rfl) Try.func8 (by kernel_rfl)
    (of_decide_eq_true (by kernel_rfl)) (by unfold Func.isWrapper; rw [if_neg (of_decide_eq_false (by kernel_rfl))]; exact ⟨rfl, rfl⟩)
    (fun os started H enc _ => lifted os started H enc)

/-- THE STATEMENT -/
theorem proved : Rows.TermCopiesSaid := over
#print axioms proved
end Go.Proofs.Ytiknelmaepkdkaa.TermCopies
