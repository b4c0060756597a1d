/- The law TermMakes returns true for all terms, texts and numbers: what is made, and which items a list has. -/
import Derived.Test.YtiknelmaepkdkaaAwake02
import Derived.Test.YtiknelmaepkdkaaRefItems
import Derived.Test.YtiknelmaepkdkaaRefList
import Derived.Test.YtiknelmaepkdkaaMakeList
import Derived.Test.YtiknelmaepkdkaaMakeTm
import Derived.Test.YtiknelmaepkdkaaCopyAll
import Derived.Test.YtiknelmaepkdkaaSmall
import Derived.Test.YtiknelmaepkdkaaOpenTs
import Derived.Test.YtiknelmaepkdkaaTold3
import Derived.Deep.RegionHeld3
import Derived.ChangeMaps5
namespace Go.Proofs.Ytiknelmaepkdkaa.TermMakes
open Go.RowKit K
open Go.ChangeShapes Go.WideShapes Go.ChangeAt
set_option linter.unusedVariables false
set_option linter.unusedSimpArgs false

set_option maxRecDepth 100000 in
set_option maxHeartbeats 8000000 in
theorem walk (n : Int) (s : ByteArray) (l : List Tm) (A : Option Addr) (c : Nat) (t : Tm) (v : Value) (w : World) (hn : (Lit.int .i64 n).wf = true) (hs : s.size ≤ maxLen) (h : TsA w A l) (hlc : l.length ≤ c) (hcm : c ≤ maxLen) (hA : A = none → c = 0) (ht : TA w t v) : Calls Try.prog 3 #[.int .i64 n, .string s, .slice A l.length c, v] w fun e w' => e = .returned (.bool true) ∧ Below w.heap.size w w' := by
  have HTL := Lib.hid h
  have HTA := Lib.hid ht
  have hl : l.length ≤ maxLen := Nat.le_trans hlc hcm
  have hll := hl
  unfold maxLen at hll
  obtain ⟨k0, n0, ts, tl, At, ct, rfl, rfl, ok, htl⟩ := ht.open_
  obtain ⟨w1, hw1⟩ : ∃ w1, w.alloc (.cells #[.int .i64 k0, .int .i64 n0, .string ts, .slice At tl.length ct] 24) = w1 := ⟨_, rfl⟩
  have HR := Lib.hid (show Below w.heap.size w w1 from by rw [← hw1]; exact ballocs (Below.refl w.heap.size w) _)
  have HG := Lib.hid (show Blk w1 w.heap.size 24 #[.int .i64 k0, .int .i64 n0, .string ts, .slice At tl.length ct] from by rw [← hw1]; exact Blk.new _ _ _)
  have HW := Lib.hid hw1
  have HLA := Lib.hid (fun w h => largeAll_any l 400 A c w (by omega) h hl)
  have HLT := Lib.hid (fun v w h => largeTerm_any (.mk k0 n0 ts tl) 400 v w (by omega) h)
  have HLC := Lib.hid hlc; have HCM := Lib.hid hcm; have HAN := Lib.hid hA; have HML := Lib.hid hl
  have HSS := Lib.hid hs
  have hss : s.size < 9223372036854775808 := by unfold maxLen at hs; omega
  have HNW := Lib.hid hn
  clear h ht ok htl hw1 hlc hcm hA hl hs hn
  by_cases h0 : 200 < s.size
  · have h0' : (200 : Int) < (s.size : Int) := by omega
    go_enter Try.func3, Try.ntmps3
    go_wp2_with fail
    go_ret
    rw [HW.out]
    exact ⟨rfl, HR.out⟩
  have h0' : ¬ (200 : Int) < (s.size : Int) := by omega
  by_cases h1 : largeB l 400 = true
  · go_enter Try.func3, Try.ntmps3
    go_wp2_with fail
    rw [HW.out]
    refine (HLA.out _ (HTL.out.later HR.out)).mono ?_
    rintro e w2 ⟨rfl, hb2⟩
    have HB2 := Lib.hid (bnext HR.out hb2)
    have HG2 := Lib.hid (HG.out.below hb2 HG.out.lt)
    clear hb2
    rw [h1]
    obtain ⟨p0, p1, p2, p3, _, _, _, _⟩ := HG2.out.four
    go_wp2_with fail
    go_ret
    exact ⟨rfl, HB2.out⟩
  have h1' : largeB l 400 = false := by simpa using h1
  clear h1
  by_cases h2 : largeT (.mk k0 n0 ts tl) 400 = true
  · go_enter Try.func3, Try.ntmps3
    go_wp2_with fail
    rw [HW.out]
    refine (HLA.out _ (HTL.out.later HR.out)).mono ?_
    rintro e w2 ⟨rfl, hb2⟩
    have HB2 := Lib.hid (bnext HR.out hb2)
    have HG2 := Lib.hid (HG.out.below hb2 HG.out.lt)
    clear hb2
    rw [h1']
    obtain ⟨p0, p1, p2, p3, _, _, _, _⟩ := HG2.out.four
    go_wp2_with fail
    refine (HLT.out _ _ (HTA.out.later HB2.out)).mono ?_
    rintro e w3 ⟨rfl, hb3⟩
    have HB3 := Lib.hid (bnext HB2.out hb3)
    have HG3 := Lib.hid (HG2.out.below hb3 HG2.out.lt)
    clear hb3 p0 p1 p2 p3
    rw [h2]
    go_wp2_with fail
    go_ret
    exact ⟨rfl, HB3.out⟩
  have h2' : largeT (.mk k0 n0 ts tl) 400 = false := by simpa using h2
  clear h2
  have hnl := small_all h1' (show 400 ≤ 400 by omega)
  have hnt := small_nodes h2' (show 400 ≤ 400 by omega)
  have hlen := Nat.le_trans (nodesL_len l) hnl
  have hnw : nodes (tlist l (.mk k0 n0 ts tl)) ≤ 1048576 := by rw [nodes_list]; omega
  have HCA := Lib.hid (fun w h => copyAll_any l A c w h (by omega))
  have HCP := Lib.hid (fun v w h => copyTerm_any (.mk k0 n0 ts tl) (by omega) v w h)
  have HCW := Lib.hid (fun v w h => copyTerm_any (tlist l (.mk k0 n0 ts tl)) hnw v w h)
  have HIt := Lib.hid (fun v w h => items_any (tlist l (.mk k0 n0 ts tl)) v w h hnw)
  have HRIt := Lib.hid (fun v w h => ritems_any (tlist l (.mk k0 n0 ts tl)) v w h hnw)
  clear hnl hnt hnw
  go_enter Try.func3, Try.ntmps3
  go_wp2_with fail
  rw [HW.out]
  refine (HLA.out _ (HTL.out.later HR.out)).mono ?_
  rintro e w2 ⟨rfl, hb2⟩
  have HB2 := Lib.hid (bnext HR.out hb2)
  have HG2 := Lib.hid (HG.out.below hb2 HG.out.lt)
  clear hb2
  rw [h1']
  obtain ⟨p0, p1, p2, p3, _, _, _, _⟩ := HG2.out.four
  go_wp2_with fail
  refine (HLT.out _ _ (HTA.out.later HB2.out)).mono ?_
  rintro e w3 ⟨rfl, hb3⟩
  have HB3 := Lib.hid (bnext HB2.out hb3)
  have HG3 := Lib.hid (HG2.out.below hb3 HG2.out.lt)
  clear hb3 p0 p1 p2 p3
  rw [h2']
  go_wp2_with fail
  refine (HCA.out _ (HTL.out.later HB3.out)).mono ?_
  rintro e w4 ⟨v4, rfl, ⟨A4, c4, rfl, hlc4, hcm4, hA4, hts4⟩, hb4⟩
  have HB4 := Lib.hid (bnext HB3.out hb4)
  have HG4 := Lib.hid (HG3.out.below hb4 HG3.out.lt)
  have HX4 := Lib.hid (show TsA w4 A4 l from hts4.mono fun b hb => hb.2)
  have HA4 := Lib.hid hA4
  clear hb4 hts4 hlc4 hcm4 hA4
  go_wp2_with fail
  have hundef : ∀ k, (undef : Value) ≠ ptr k := fun k h => by cases h
  refine wp_region_by (by kernel_rfl) (by kernel_rfl) (fun L a' wx => ∃ x10 x11 x30 x31 x32 x33 x34 x35, a' = { tmps := #[.int .i64 n, .string s, .slice A l.length c, .agg #[.int .i64 k0, .int .i64 n0, .string ts, .slice At tl.length ct], undef, undef, undef, .pointer (some ⟨w.heap.size, 0, none⟩), .bool false, .slice A4 l.length c4, x10, x11, undef, undef, undef, undef, undef, .string s, .int .i64 (s.size : Int), .bool false, .bool false, .slice A l.length c, .bool false, .bool false, .bool false, .agg #[.int .i64 k0, .int .i64 n0, .string ts, .slice At tl.length ct], .bool false, .bool false, .slice A l.length c, .slice A4 l.length c4, x30, x31, x32, x33, x34, x35, undef, undef, undef, undef, undef, undef, undef, undef, undef, undef, undef, undef, undef, undef, undef, undef, undef, undef, undef, undef, undef, undef, undef, undef, undef, undef, undef, undef, undef, undef, undef, undef, undef, undef, undef, undef, undef, undef, undef, undef, undef, undef, undef, undef, undef, undef, undef, undef, undef, undef, undef, undef, undef, undef, undef, undef], defers := [] } ∧ Below w4.heap.size w4 wx ∧ (L 0 = true → x30 = .slice A4 l.length c4) ∧ (L 2 = true → x32 = .slice A4 l.length c4) ∧ (L 3 = true → x33 = .agg #[.int .i64 k0, .int .i64 n0, .string ts, .slice At tl.length ct]) ∧ (Pt (.mk k0 n0 ts tl) (L 4) x34 x10 x11 wx) ∧ (Hf w4.heap.size (ttup l) (L 1) (L 6) (L 8) x31 x10 x11 wx) ∧ (Hf w4.heap.size (tlist l (.mk k0 n0 ts tl)) (L 5) (L 7) (L 9) x35 x11 x10 wx)) ?_ ?_ ?_
  · exact ⟨undef, undef, undef, undef, undef, undef, undef, undef, rfl, btodrew (Below.refl _ _), nofun, nofun, nofun, Pt.start _, Hf.start _ _ _ hundef, Hf.start _ _ _ hundef⟩
  · rintro L a' wx ⟨x10, x11, x30, x31, x32, x33, x34, x35, rfl, hb, h30, h32, h33, hp, ha, hb2⟩ hL
    have e1 := hL 1 (by decide); have e5 := hL 5 (by decide); have e6 := hL 6 (by decide); have e7 := hL 7 (by decide); have e8 := hL 8 (by decide); have e9 := hL 9 (by decide); have e4 := hL 4 (by decide)
    rw [e1, e6, e8] at ha
    rw [e5, e7, e9] at hb2
    obtain rfl := h30 (hL 0 (by decide))
    obtain rfl := h32 (hL 2 (by decide))
    obtain rfl := h33 (hL 3 (by decide))
    obtain ⟨A34, c34, rfl, _⟩ := hp e4
    obtain ⟨g5, A5, c5, rfl, hg5, rfl, q5, ta5⟩ := ha.done
    obtain ⟨g6, A6, c6, rfl, hg6, rfl, q6, ta6⟩ := hb2.done
    obtain ⟨wk, wn, ws, wl, hT⟩ : ∃ k n s q, tlist l (.mk k0 n0 ts tl) = .mk k n s q := ⟨_, _, _, _, (Tm.eta _).symm⟩
    rw [hT] at q6 ta6
    rw [hT]
    dsimp only [tv, ttup, Tm.k_mk, Tm.n_mk, Tm.s_mk, Tm.l_mk] at ta5 ta6 q5 q6
    dsimp only [tv, ttup, Tm.k_mk, Tm.n_mk, Tm.s_mk, Tm.l_mk]
    rw [hT] at HCW HIt HRIt
    have HB5 := Lib.hid (bnext HB4.out hb)
    have HX5 := Lib.hid (HX4.out.later hb)
    have HG5 := Lib.hid (HG4.out.below hb HG4.out.lt)
    have HTP5 := Lib.hid (show TA wx (ttup l) _ from ta5)
    have HTL5 := Lib.hid ta6
    have HGa5 := Lib.hid q5
    have HGb5 := Lib.hid q6
    have HTT := Lib.hid hT
    clear ha hb2 hp hb h30 h32 h33 ta5 ta6 q5 q6 hL e1 e5 e6 e7 e8 e9 e4 hT
    obtain ⟨p0, p1, p2, p3, _, _, _, _⟩ := HG5.out.four
    go_wp2_with fail
    refine (rlist_at (· < wx.heap.size) l (.mk k0 n0 ts tl) A c _ wx (fun _ h => h) (HTL.out.later HB5.out) (HTA.out.later HB5.out) HML.out).mono ?_
    rintro e w6 ⟨v6, rfl, ht6, hb6⟩
    rw [HTT.out] at ht6
    obtain ⟨A7, c7, hv6, _⟩ := ht6.inv
    unfold tv at hv6
    dsimp only [Tm.k_mk, Tm.n_mk, Tm.s_mk, Tm.l_mk] at hv6
    subst hv6
    have HB6 := Lib.hid hb6
    obtain ⟨w7, hw7⟩ : ∃ w7, w6.alloc (.cells #[.int .i64 wk, .int .i64 wn, .string ws, .slice A7 wl.length c7] 24) = w7 := ⟨_, rfl⟩
    have HB7 := Lib.hid (show Below wx.heap.size wx w7 from by rw [← hw7]; exact ballocs HB6.out _)
    have HGw := Lib.hid (show Blk w7 w6.heap.size 24 #[.int .i64 wk, .int .i64 wn, .string ws, .slice A7 wl.length c7] from by rw [← hw7]; exact Blk.new _ _ _)
    have HTw := Lib.hid (show TA w7 (.mk wk wn ws wl) (.agg #[.int .i64 wk, .int .i64 wn, .string ws, .slice A7 wl.length c7]) from by rw [← hw7]; exact (show TA w6 _ _ from ht6.mono fun b hb => hb.1).later (ballocs (Below.refl w6.heap.size w6) _))
    have HW7 := Lib.hid hw7
    clear hb6 ht6 hw7 p0 p1 p2 p3
    go_wp2_with fail
    rw [HW7.out]
    refine (HCW.out _ _ HTw.out).mono ?_
    rintro e w8 ⟨v8, rfl, ht8, hb8⟩
    have HB8 := Lib.hid (bnext HB7.out hb8)
    have HGw8 := Lib.hid (HGw.out.below hb8 HGw.out.lt)
    have HTw8 := Lib.hid (HTw.out.later hb8)
    have HX8 := Lib.hid (show TA w8 (.mk wk wn ws wl) v8 from ht8.mono fun b hb => hb.2)
    clear hb8 ht8
    go_wp2_with fail
    refine (HIt.out _ _ HX8.out).mono ?_
    rintro e w9 ⟨v9, b9, rfl, rfl, ⟨A9, c9, rfl, hlc9, hcm9, _, hts9⟩, hb9⟩
    have HB9 := Lib.hid (bnext HB8.out hb9)
    have HGw9 := Lib.hid (HGw8.out.below hb9 HGw8.out.lt)
    have HTw9 := Lib.hid (HTw8.out.later hb9)
    obtain ⟨its, hits⟩ : ∃ its, (items (.mk wk wn ws wl)).getD [] = its := ⟨_, rfl⟩
    obtain ⟨isb, hisb⟩ : ∃ b, (items (.mk wk wn ws wl)).isSome = b := ⟨_, rfl⟩
    rw [hits] at hts9 hlc9 ⊢
    rw [hisb]
    have HI9 := Lib.hid (show TsA w9 A9 its from hts9)
    have HIL := Lib.hid (Nat.le_trans hlc9 hcm9)
    have HITS := Lib.hid hits
    have HISB := Lib.hid hisb
    clear hb9 hts9 hlc9 hcm9 hits hisb
    obtain ⟨p0, p1, p2, p3, _, _, _, _⟩ := HGw9.out.four
    go_wp2_with fail
    refine (HRIt.out _ _ HTw9.out).mono ?_
    rintro e w10 ⟨v10, b10, rfl, rfl, ⟨A10, c10, rfl, hlc10, hcm10, _, hts10⟩, hb10⟩
    have HB10 := Lib.hid (bnext HB9.out hb10)
    rw [HITS.out] at hts10 hlc10 ⊢
    rw [HISB.out]
    have HJ10 := Lib.hid (show TsA w10 A10 its from hts10)
    have HI10 := Lib.hid (HI9.out.later hb10)
    have HGw10 := Lib.hid (HGw9.out.below hb10 HGw9.out.lt)
    have HTw10 := Lib.hid (HTw9.out.later hb10)
    have HGa10 := Lib.hid (HGa5.out.below HB10.out HGa5.out.lt)
    have HGb10 := Lib.hid (HGb5.out.below HB10.out HGb5.out.lt)
    have HTP10 := Lib.hid (HTP5.out.later HB10.out)
    have HTL10 := Lib.hid (HTL5.out.later HB10.out)
    have HX10 := Lib.hid (HX5.out.later HB10.out)
    have HL10 := Lib.hid (HTL.out.later (bnext HB5.out HB10.out))
    clear hb10 hts10 hlc10 hcm10 p0 p1 p2 p3
    have et := eqT_self (ttup l)
    have ew := eqT_self (.mk wk wn ws wl)
    have ei := eqTs_self its
    have el := eqTs_self l
    have ebb : (isb != isb) = false := by simp
    have HS := Lib.hid (show ∀ wx', Below w10.heap.size w10 wx' → (Below w10.heap.size w10 wx' ∧ wx'.cell? ⟨g5, 0, none⟩ = some (.int .i64 7) ∧ wx'.cell? ⟨g5, 1, none⟩ = some (.int .i64 0) ∧ wx'.cell? ⟨g5, 2, none⟩ = some (.string .empty) ∧ wx'.cell? ⟨g5, 3, none⟩ = some (.slice A5 l.length c5) ∧ wx'.cell? ⟨g6, 0, none⟩ = some (.int .i64 wk) ∧ wx'.cell? ⟨g6, 1, none⟩ = some (.int .i64 wn) ∧ wx'.cell? ⟨g6, 2, none⟩ = some (.string ws) ∧ wx'.cell? ⟨g6, 3, none⟩ = some (.slice A6 wl.length c6) ∧ wx'.cell? ⟨w6.heap.size, 0, none⟩ = some (.int .i64 wk) ∧ wx'.cell? ⟨w6.heap.size, 1, none⟩ = some (.int .i64 wn) ∧ wx'.cell? ⟨w6.heap.size, 2, none⟩ = some (.string ws) ∧ wx'.cell? ⟨w6.heap.size, 3, none⟩ = some (.slice A7 wl.length c7)) from fun wx' hb => by
      obtain ⟨t0, t1, t2, t3, _, _, _, _⟩ := (HGa10.out.below hb HGa10.out.lt).four
      obtain ⟨u0, u1, u2, u3, _, _, _, _⟩ := (HGb10.out.below hb HGb10.out.lt).four
      obtain ⟨s0, s1, s2, s3, _, _, _, _⟩ := (HGw10.out.below hb HGw10.out.lt).four
      exact ⟨hb, t0, t1, t2, t3, u0, u1, u2, u3, s0, s1, s2, s3⟩)
    go_wp2_with fail
    go_region_held3 (fun wx' => Below w10.heap.size w10 wx' ∧ wx'.cell? ⟨g5, 0, none⟩ = some (.int .i64 7) ∧ wx'.cell? ⟨g5, 1, none⟩ = some (.int .i64 0) ∧ wx'.cell? ⟨g5, 2, none⟩ = some (.string .empty) ∧ wx'.cell? ⟨g5, 3, none⟩ = some (.slice A5 l.length c5) ∧ wx'.cell? ⟨g6, 0, none⟩ = some (.int .i64 wk) ∧ wx'.cell? ⟨g6, 1, none⟩ = some (.int .i64 wn) ∧ wx'.cell? ⟨g6, 2, none⟩ = some (.string ws) ∧ wx'.cell? ⟨g6, 3, none⟩ = some (.slice A6 wl.length c6) ∧ wx'.cell? ⟨w6.heap.size, 0, none⟩ = some (.int .i64 wk) ∧ wx'.cell? ⟨w6.heap.size, 1, none⟩ = some (.int .i64 wn) ∧ wx'.cell? ⟨w6.heap.size, 2, none⟩ = some (.string ws) ∧ wx'.cell? ⟨w6.heap.size, 3, none⟩ = some (.slice A7 wl.length c7)) (first
        | exact HS.out _ (btodrew (Below.refl _ _))
        | exact HS.out _ hbz
        | assumption) (first
        | (go_at_call 19
           have hby := And.left (by assumption)
           refine (tup_val _ _ _ _).mono ?_
           rintro e wz ⟨rfl, hbz0⟩
           have hbz := bnext hby hbz0)
        | (go_at_call 18
           have hmark := HMK
           have hby := And.left (by assumption)
           refine (sameTerm_any (.mk wk wn ws wl) (.mk wk wn ws wl) _ _ _ (HTL10.out.later hby) (HTw10.out.later hby)).mono ?_
           rintro e wz ⟨rfl, hbz0⟩
           rw [ew]
           have hbz := bnext hby hbz0)
        | (go_at_call 18
           have HMK := trivial
           have hby := And.left (by assumption)
           refine (sameTerm_any (ttup l) (ttup l) _ _ _ (HTP10.out.later hby) (ta_tup (HL10.out.later hby) HLC.out HCM.out HAN.out)).mono ?_
           rintro e wz ⟨rfl, hbz0⟩
           rw [et]
           have hbz := bnext hby hbz0)
        | (go_at_call 20
           have hby := And.left (by assumption)
           refine (sameAll_any its its A9 A10 c9 c10 _ (HI10.out.later hby) (HJ10.out.later hby) HIL.out HIL.out).mono ?_
           rintro e wz ⟨rfl, hbz0⟩
           rw [ei]
           have hbz := bnext hby hbz0))
    have hb11 := And.left (by assumption)
    have HB11 := Lib.hid (bnext HB10.out hb11)
    have HX11 := Lib.hid (HX10.out.later hb11)
    have HL11 := Lib.hid (HL10.out.later hb11)
    clear hb11
    go_wp2_with fail
    refine (mkint_any n _ HNW.out).mono ?_
    rintro e w12 ⟨v12, rfl, ht12, hb12⟩
    obtain ⟨A12, c12, rfl, _⟩ := ht12.inv
    have HB12 := Lib.hid (bnext HB11.out hb12)
    have HT12 := Lib.hid ht12
    have HX12 := Lib.hid (HX11.out.later hb12)
    have HL12 := Lib.hid (HL11.out.later hb12)
    clear hb12 ht12
    dsimp only [tv]
    go_wp2_with fail
    refine (num_any n _ HNW.out).mono ?_
    rintro e w13 ⟨v13, rfl, ht13, hb13⟩
    obtain ⟨A13, c13, rfl, _⟩ := ht13.inv
    have HB13 := Lib.hid (bnext HB12.out hb13)
    have HT13 := Lib.hid ht13
    have HU13 := Lib.hid (HT12.out.later hb13)
    have HX13 := Lib.hid (HX12.out.later hb13)
    have HL13 := Lib.hid (HL12.out.later hb13)
    clear hb13 ht13
    dsimp only [tv]
    go_wp2_with fail
    refine (sameTerm_any (tnum n) (tnum n) _ _ _ HU13.out HT13.out).mono ?_
    rintro e w14 ⟨rfl, hb14⟩
    have HB14 := Lib.hid (bnext HB13.out hb14)
    have HX14 := Lib.hid (HX13.out.later hb14)
    have HL14 := Lib.hid (HL13.out.later hb14)
    rw [eqT_self]
    clear hb14
    go_wp2_with fail
    refine (mkatom_any s _ HSS.out).mono ?_
    rintro e w15 ⟨v15, rfl, ht15, hb15⟩
    obtain ⟨A15, c15, rfl, _⟩ := ht15.inv
    have HB15 := Lib.hid (bnext HB14.out hb15)
    have HT15 := Lib.hid ht15
    have HX15 := Lib.hid (HX14.out.later hb15)
    have HL15 := Lib.hid (HL14.out.later hb15)
    clear hb15 ht15
    dsimp only [tv]
    go_wp2_with fail
    refine (sym_any s _ HSS.out).mono ?_
    rintro e w16 ⟨v16, rfl, ht16, hb16⟩
    obtain ⟨A16, c16, rfl, _⟩ := ht16.inv
    have HB16 := Lib.hid (bnext HB15.out hb16)
    have HT16 := Lib.hid ht16
    have HU16 := Lib.hid (HT15.out.later hb16)
    have HX16 := Lib.hid (HX15.out.later hb16)
    have HL16 := Lib.hid (HL15.out.later hb16)
    clear hb16 ht16
    dsimp only [tv]
    go_wp2_with fail
    refine (sameTerm_any (tsym s) (tsym s) _ _ _ HU16.out HT16.out).mono ?_
    rintro e w17 ⟨rfl, hb17⟩
    have HB17 := Lib.hid (bnext HB16.out hb17)
    have HX17 := Lib.hid (HX16.out.later hb17)
    have HL17 := Lib.hid (HL16.out.later hb17)
    rw [eqT_self]
    clear hb17
    go_wp2_with fail
    refine (sameAll_any l l A4 A c4 c _ HX17.out HL17.out HML.out HML.out).mono ?_
    rintro e w18 ⟨rfl, hb18⟩
    have HB18 := Lib.hid (bnext HB17.out hb18)
    rw [el]
    clear hb18
    go_wp2_with fail
    refine (awake_any _).mono ?_
    rintro e w19 ⟨rfl, hb19⟩
    have HB19 := Lib.hid (bnext HB5.out (bnext HB18.out hb19))
    clear hb19
    go_wp2_with fail
    go_ret
    exact ⟨rfl, HB19.out⟩
  · rintro i o ho L a' wx ⟨x10, x11, x30, x31, x32, x33, x34, x35, rfl, hb, h30, h32, h33, hp, ha, hb2⟩ hi hdep K hK
    rcases i with _ | _ | _ | _ | _ | _ | _ | _ | _ | _ | i
    · obtain rfl := Option.some.inj ho
      go_simp
      exact hK _ _ ⟨x10, x11, _, x31, x32, x33, x34, x35, rfl, hb, fun _ => rfl, by simpa [upto] using h32, by simpa [upto] using h33, by simpa [upto] using hp, by simpa [upto] using ha, by simpa [upto] using hb2⟩
    · obtain rfl := Option.some.inj ho
      obtain rfl := h30 (hdep ⟨0, .data⟩ (by simp) rfl)
      rw [hi] at ha
      go_simp
      refine (mktuple_at (· < w4.heap.size) l A4 c4 _ (fun b hb' => Nat.lt_of_lt_of_le hb' hb.size) (HX4.out.under hb fun b hb => hb) (by omega) HA4.out).mono ?_
      rintro e w9 ⟨v9, rfl, ht9, hb9⟩
      have hf : TAt w9 (Free w9 x10 x11) (ttup l) v9 := ht9.mono fun b hb' => ⟨hb'.1, fun e => by
        have g1 := ha.lt b e; have g2 := ha.ge b e; rcases hb'.2 with h | h <;> omega, fun e => by
        have g1 := hb2.lt b e; have g2 := hb2.ge b e; rcases hb'.2 with h | h <;> omega⟩
      exact hK _ _ ⟨x10, x11, _, _, x32, x33, x34, x35, rfl, bnext hb hb9, fun _ => rfl, by simpa [upto] using h32, by simpa [upto] using h33, by simpa [upto] using hp.later hb9, by simpa [upto] using ha.call hb9 hf, by simpa [upto] using hb2.later hb9⟩
    · obtain rfl := Option.some.inj ho
      go_simp
      exact hK _ _ ⟨x10, x11, x30, x31, _, x33, x34, x35, rfl, hb, by simpa [upto] using h30, fun _ => rfl, by simpa [upto] using h33, by simpa [upto] using hp, by simpa [upto] using ha, by simpa [upto] using hb2⟩
    · obtain rfl := Option.some.inj ho
      obtain ⟨a0, a1, a2, a3, _, _, _, _⟩ := (HG4.out.below hb HG4.out.lt).four
      go_simp
      exact hK _ _ ⟨x10, x11, x30, x31, x32, _, x34, x35, rfl, hb, by simpa [upto] using h30, by simpa [upto] using h32, fun _ => rfl, by simpa [upto] using hp, by simpa [upto] using ha, by simpa [upto] using hb2⟩
    · obtain rfl := Option.some.inj ho
      obtain rfl := h33 (hdep ⟨3, .data⟩ (by simp) rfl)
      go_simp
      refine (HCP.out _ _ (HTA.out.later (bnext HB4.out hb))).mono ?_
      rintro e w9 ⟨v9, rfl, ht9, hb9⟩
      have hf : TAt w9 (Free w9 x10 x11) (.mk k0 n0 ts tl) v9 := ht9.mono fun b hb' => ⟨hb'.2, fun e => by
        have g1 := ha.lt b e; have := hb'.1; omega, fun e => by
        have g1 := hb2.lt b e; have := hb'.1; omega⟩
      exact hK _ _ ⟨x10, x11, x30, x31, x32, _, _, x35, rfl, bnext hb hb9, by simpa [upto] using h30, by simpa [upto] using h32, fun _ => rfl, by simpa [upto] using Pt.call hf, by simpa [upto] using ha.later hb9, by simpa [upto] using hb2.later hb9⟩
    · obtain rfl := Option.some.inj ho
      obtain rfl := h32 (hdep ⟨2, .data⟩ (by simp) rfl)
      have d4 := (hdep ⟨4, .data⟩ (by simp) rfl)
      rw [hi] at hb2
      obtain ⟨A34, c34, rfl, ht34⟩ := hp d4
      have hfree : ∀ b, b < w4.heap.size → Free wx x10 x11 b := fun b hb' => ⟨Nat.lt_of_lt_of_le hb' hb.size, fun e => by have := ha.ge b e; omega, fun e => by have := hb2.ge b e; omega⟩
      go_simp
      refine (mlist_at (Free wx x10 x11) l (.mk k0 n0 ts tl) A4 c4 _ wx (fun b hb' => hb'.1) ((HX4.out.under hb fun b hb => hb).mono hfree) ht34 HML.out).mono ?_
      rintro e w9 ⟨v9, rfl, ht9, hb9⟩
      have hf : TAt w9 (Free w9 x11 x10) (tlist l (.mk k0 n0 ts tl)) v9 := ht9.mono fun b hb' => ⟨hb'.1, fun e => by
        rcases hb'.2 with h | h
        · exact h.2.2 e
        · have g1 := hb2.lt b e; omega, fun e => by
        rcases hb'.2 with h | h
        · exact h.2.1 e
        · have g1 := ha.lt b e; omega⟩
      exact hK _ _ ⟨x10, x11, x30, x31, _, x33, _, _, rfl, bnext hb hb9, by simpa [upto] using h30, fun _ => rfl, by simpa [upto] using h33, by simpa [upto] using (show Pt _ (L 4) _ x10 x11 wx from fun _ => ⟨A34, c34, rfl, ht34⟩).later hb9, by simpa [upto] using ha.later hb9, by simpa [upto] using hb2.call hb9 hf⟩
    · obtain rfl := Option.some.inj ho
      rw [hi] at ha
      go_simp
      exact hK _ _ ⟨_, x11, x30, x31, x32, x33, x34, x35, rfl, ballocs hb _, by simpa [upto] using h30, by simpa [upto] using h32, by simpa [upto] using h33, by simpa [upto] using hp.mine _, by simpa [upto] using ha.mine hb.size hb2.lt, by simpa [upto] using hb2.other _⟩
    · obtain rfl := Option.some.inj ho
      rw [hi] at hb2
      go_simp
      exact hK _ _ ⟨x10, _, x30, x31, x32, x33, x34, x35, rfl, ballocs hb _, by simpa [upto] using h30, by simpa [upto] using h32, by simpa [upto] using h33, by simpa [upto] using hp.other _, by simpa [upto] using ha.other _, by simpa [upto] using hb2.mine hb.size ha.lt⟩
    · obtain rfl := Option.some.inj ho
      have d1 := (hdep ⟨1, .data⟩ (by simp) rfl)
      have d6 := (hdep ⟨6, .data⟩ (by simp) rfl)
      rw [d1, d6] at ha
      obtain ⟨A9, c9, rfl, _⟩ := ha.told rfl
      obtain ⟨g, rfl, hg1, _, _, y0, y1, y2, y3, hg2, _⟩ := ha.box rfl
      obtain ⟨a0, a1, a2, a3, f0, f1, f2, f3⟩ := hg2.four
      unfold tv at ha
      dsimp only [tv, Tm.k_mk, Tm.n_mk, Tm.s_mk, Tm.l_mk]
      go_simp
      exact hK _ _ ⟨_, x11, x30, _, x32, x33, x34, x35, rfl, put4_below hb hg1 _ _ _ _, by simpa [upto] using h30, by simpa [upto] using h32, by simpa [upto] using h33, by simpa [upto, put4] using hp.put (.inl rfl), by simpa [upto, d1, d6, put4] using ha.put, by simpa [upto, put4] using hb2.aside⟩
    · obtain rfl := Option.some.inj ho
      have d1 := (hdep ⟨5, .data⟩ (by simp) rfl)
      have d6 := (hdep ⟨7, .data⟩ (by simp) rfl)
      rw [d1, d6] at hb2
      obtain ⟨A9, c9, rfl, _⟩ := hb2.told rfl
      obtain ⟨g, rfl, hg1, _, _, y0, y1, y2, y3, hg2, _⟩ := hb2.box rfl
      obtain ⟨a0, a1, a2, a3, f0, f1, f2, f3⟩ := hg2.four
      unfold tv at hb2
      dsimp only [tv, Tm.k_mk, Tm.n_mk, Tm.s_mk, Tm.l_mk]
      go_simp
      exact hK _ _ ⟨x10, _, x30, x31, x32, x33, x34, _, rfl, put4_below hb hg1 _ _ _ _, by simpa [upto] using h30, by simpa [upto] using h32, by simpa [upto] using h33, by simpa [upto, put4] using hp.put (.inr rfl), by simpa [upto, put4] using ha.aside, by simpa [upto, d1, d6, put4] using hb2.put⟩
    · simp at ho

theorem contract {H : Type} {enc : TypeId × Value → H} (W : World) {base : Nat} {r r' r'' r3 : Reach} {b b' b'' b3 : Nat} {hd hd' hd'' hd3 : Bool} {v0 v1 v2 v3 : Value} {d0 d1 d2 d3 : DataW H} {p0 p1 p2 p3 : List MemPlace}
    (o0 : Value.okWide Try.prog W r b 3 v0) (h0 : DataW.Trod enc Try.prog W base (fun _ => true) hd 3 v0 d0 p0) (o1 : Value.okWide Try.prog W r' b' 9 v1) (h1 : DataW.Trod enc Try.prog W base (fun _ => true) hd' 9 v1 d1 p1)
    (o2 : Value.okWide Try.prog W r'' b'' 22 v2) (h2 : DataW.Trod enc Try.prog W base (fun _ => true) hd'' 22 v2 d2 p2)
    (o3 : Value.okWide Try.prog W r3 b3 24 v3) (h3 : DataW.Trod enc Try.prog W base (fun _ => true) hd3 24 v3 d3 p3) {Q R : Prop} (_ : Q) (_ : R) :
    Calls Try.prog 3 #[v0, v1, v2, v3] W fun e w' => e = .returned (.bool true) ∧ Below W.heap.size W w' := by
  obtain ⟨n, rfl, _, _, w0⟩ := open_int Try.underlying3 o0 h0
  obtain ⟨s, rfl, _, _, w1⟩ := Go.ChangeMaps.open_string Try.underlying9 o1 h1
  obtain ⟨A, c, l, rfl, hl, h4, h5, h6⟩ := open_ts o2 h2
  obtain ⟨t, ht⟩ := open_t o3 h3
  exact walk n s l A c t v3 W w0 w1 hl h4 h5 h6 ht

theorem own : ownKnob Try.prog.godebug = none := by kernel_rfl
theorem laidOut : laidOutB Try.prog = true := by kernel_rfl
theorem readable : ∀ t ∈ Try.f3.params.toList, Try.prog.readableRec t = true ∧ t < Try.prog.types.size := by
  rw [show Try.f3.params = #[3, 9, 22, 24] from Try.params3]
  intro t h
  simp only [List.mem_cons, List.not_mem_nil, or_false] at h
  rcases h with rfl | rfl | rfl | rfl
  · exact ⟨by kernel_rfl, of_decide_eq_true (by kernel_rfl)⟩
  · exact ⟨by kernel_rfl, of_decide_eq_true (by kernel_rfl)⟩
  · exact ⟨by kernel_rfl, of_decide_eq_true (by kernel_rfl)⟩
  · exact ⟨by kernel_rfl, of_decide_eq_true (by kernel_rfl)⟩
set_option maxRecDepth 100000 in
theorem lifted (os : Os) (started : os.Started) (H : Type) (enc : TypeId × Value → H) :
    ReturnsInHanded {} Try.checked os 3 .any (Rows.termMakesSpec.pre6 enc Try.prog Try.f3 Rows.termMakesRow.domain false) (Rows.termMakesSpec.post enc Try.prog Try.f3 false true false false) := by
  refine K.law_lift (C := Try.checked) (b := 4) own started (by kernel_rfl) Try.func3
    (ChangeSpec.witness6 (enc := enc) (C := Try.checked) false ⟨#[], #[.int .i64 0, .string .empty, .slice none 0 0, .agg #[.int .i64 0, .int .i64 0, .string .empty, .slice none 0 0]], []⟩ 8 (by kernel_rfl) (by kernel_rfl) (by kernel_rfl) (by kernel_rfl)) laidOut readable rfl rfl Try.underlying4 ?_ ?_
  · intro ds hds
    rw [show Try.f3.params = #[3, 9, 22, 24] from Try.params3] at hds
    match ds, hds with
    | [d0, d1, d2, d3], _ => rfl
  · intro W base args ds p hval hA hlt hsz
    rw [show Try.checked.prog = Try.prog from rfl] at hval hA hsz
    rw [show Try.f3.params = #[3, 9, 22, 24] from Try.params3] at hA hval hsz
    obtain ⟨v0, vs0, d0, ds0, p0, q0, hargs, rfl, rfl, h0, r0⟩ := trodAll_cons hA
    obtain ⟨v1, vs1, d1, ds1, p1, q1, rfl, rfl, rfl, h1, r1⟩ := trodAll_cons r0
    obtain ⟨v2, vs2, d2, ds2, p2, q2, rfl, rfl, rfl, h2, r2⟩ := trodAll_cons r1
    obtain ⟨v3, vs3, d3, ds3, p3, q3, rfl, rfl, rfl, h3, r3⟩ := trodAll_cons r2
    obtain ⟨rfl, rfl, rfl⟩ := trodAll_nil r3
    obtain rfl : args = #[v0, v1, v2, v3] := by cases args; simp_all
    exact contract W (hval 0 3 v0 rfl rfl) h0 (hval 1 9 v1 rfl rfl) h1 (hval 2 22 v2 rfl rfl) h2 (hval 3 24 v3 rfl rfl) h3 (fun x hx => hlt x hx) hsz

theorem over : Rows.termMakesRow.holds Try.pinned (OpenSpec.ofChange Rows.termMakesSpec) :=
  OpenClaim.holds_of_wide 3 Try.f3 rfl rfl rfl rfl rfl rfl rfl ⟨rfl, rfl, rfl, rfl, rfl⟩ rfl rfl rfl rfl rfl (by kernel_rfl) Try.func3 (by kernel_rfl)
    (of_decide_eq_true (by kernel_rfl)) (by unfold Func.isWrapper; rw [if_neg (of_decide_eq_false (by kernel_rfl))]; exact ⟨rfl, rfl⟩)
    (fun os started H enc _ => lifted os started H enc)

/-- THE STATEMENT -/
theorem proved : Rows.TermMakesSaid := over
#print axioms proved
end Go.Proofs.Ytiknelmaepkdkaa.TermMakes
