/- The law NeedGrows returns true for all terms and numbers: what one object more needs is what the sum is greater then. -/
import Derived.Test.YtofinjkgbbdbcaaNeedKnown
import Derived.Test.YtofinjkgbbdbcaaSameAll
import Derived.Test.YtofinjkgbbdbcaaSmall
import Derived.Test.YtofinjkgbbdbcaaOpenTs
import Derived.Test.YtofinjkgbbdbcaaPick
import Derived.Test.YtofinjkgbbdbcaaInv
import Derived.Test.YtofinjkgbbdbcaaGrow
import Derived.Test.YtofinjkgbbdbcaaSteps

namespace Go.Proofs.Ytofinjkgbbdbcaa.NeedGrows
open Go.RowKit K Ar Nd
open Go.ChangeShapes Go.WideShapes Go.ChangeAt
set_option linter.unusedVariables false
set_option linter.unusedSimpArgs false

/-- What one more object adds. -/
theorem grows {k b : Int} {l : List Tm} {t : Tm} (hk : 1 ≤ k ∧ k ≤ 4) (hb : 0 ≤ b ∧ b < 2000) (hl : l.length ≤ 300) (hs : sumE l = 0) (ht : chk t = 0) (later : Int) (hlat : later = if k ≠ 2 ∧ 2 * b < (l.length : Int) + 1 then b + 1 else b) :
    sumsN k later (l ++ [t]) = sumsN k b l + putN k b (l.length : Int) t ∧ sumsE k later (l ++ [t]) = 0 ∧ sumsE k b l = 0 ∧ putE k b (l.length : Int) t = 0 ∧ objN t = rndI (wds t) ∧ objE t = 0 := by
  have hb1 : ¬ badP k b := fun h => by unfold badP at h; omega
  have hb2 : ¬ badP k later := fun h => by unfold badP at h; subst hlat; split at h <;> omega
  have h3 : ¬ (badP k b ∨ (l.length : Int) < 0 ∨ 16777216 < (l.length : Int)) := fun h => by rcases h with h | h | h <;> first | exact hb1 h | omega
  refine ⟨?_, ?_, ?_, ?_, ?_, ht⟩
  · unfold sumsN putN
    rw [if_neg hb1, if_neg hb2, if_neg h3, if_pos ht, sumN_append k l t _ hs ht, sumN_ok k l _ hs, sumN_ok k l (base k b) hs]
    unfold base
    by_cases h2 : k = 2
    · rw [if_pos h2, if_neg (show ¬ (k ≠ 2 ∧ 2 * b ≤ (l.length : Int) ∧ b < 1048576) by omega)]
      omega
    · rw [if_neg h2]
      by_cases hc : 2 * b < (l.length : Int) + 1
      · rw [if_pos (show k ≠ 2 ∧ 2 * b < (l.length : Int) + 1 from ⟨h2, hc⟩)] at hlat
        rw [if_pos (show k ≠ 2 ∧ 2 * b ≤ (l.length : Int) ∧ b < 1048576 by omega), if_neg h2, hlat]
        omega
      · rw [if_neg (show ¬ (k ≠ 2 ∧ 2 * b < (l.length : Int) + 1) from fun h => hc h.2)] at hlat
        rw [if_neg (show ¬ (k ≠ 2 ∧ 2 * b ≤ (l.length : Int) ∧ b < 1048576) by omega), if_neg h2, hlat]
        omega
  · unfold sumsE
    rw [if_neg hb2, sumE_append l t hs]
    exact ht
  · unfold sumsE
    rw [if_neg hb1]
    exact hs
  · unfold putE
    rw [if_neg h3]
    exact ht
  · unfold objN
    rw [if_pos ht]

set_option maxRecDepth 100000 in
set_option maxHeartbeats 8000000 in
theorem walk (kd bk : Int) (l : List Tm) (A : Option Addr) (c : Nat) (t : Tm) (v : Value) (w : World) (hk : (Lit.int .i64 kd).wf = true) (hb : (Lit.int .i64 bk).wf = true) (h : TsA w A l) (hl : l.length ≤ maxLen) (ht : TA w t v) : Calls Try.prog 6 #[.int .i64 kd, .int .i64 bk, .slice A l.length c, v] w fun e w' => e = .returned (.bool true) ∧ Below w.heap.size w w' := by
  have HTL := Lib.hid h
  have HTA := Lib.hid ht
  have hll := hl
  unfold maxLen at hll
  obtain ⟨k0, n0, s, tl, At, ct, rfl, rfl, ok, htl⟩ := ht.open_
  obtain ⟨w1, hw1⟩ : ∃ w1, w.alloc (.cells #[.int .i64 k0, .int .i64 n0, .string s, .slice At tl.length ct] 24) = w1 := ⟨_, rfl⟩
  have HR := Lib.hid (show Below w.heap.size w w1 from by rw [← hw1]; exact ballocs (Below.refl w.heap.size w) _)
  have HG := Lib.hid (show Blk w1 w.heap.size 24 #[.int .i64 k0, .int .i64 n0, .string s, .slice At tl.length ct] from by rw [← hw1]; exact Blk.new _ _ _)
  have HW := Lib.hid hw1
  have HLA := Lib.hid (fun w h => largeAll_any l 300 A c w (by omega) h hl)
  have HLT := Lib.hid (fun v w h => largeTerm_any (.mk k0 n0 s tl) 300 v w (by omega) h)
  obtain ⟨x, hx⟩ : ∃ x, pickN kd 4 = x := ⟨_, rfl⟩
  obtain ⟨b, hbx⟩ : ∃ x, pickN bk 2000 = x := ⟨_, rfl⟩
  have hx1 := pickN_range (x := kd) (n := 4) (by omega)
  have hb1 := pickN_range (x := bk) (n := 2000) (by omega)
  have HP4 := Lib.hid (fun w => hx ▸ pick_any kd 4 hk (by decide) w)
  have HP2 := Lib.hid (fun w => hbx ▸ pick_any bk 2000 hb (by decide) w)
  rw [hx] at hx1
  rw [hbx] at hb1
  clear h hl ht ok htl hw1 hk hb hx hbx
  obtain ⟨x1, x2⟩ := hx1
  obtain ⟨b1, b2⟩ := hb1
  have HK := Lib.hid (fun w => NeedKnown.known w)
  by_cases h1 : largeB l 300 = true
  · go_enter Try.func6, Try.ntmps6
    go_wp2_with fail
    rw [HW.out]
    refine (HK.out _).mono ?_
    rintro e w2 ⟨rfl, hb2⟩
    have HB2 := Lib.hid (bnext HR.out hb2)
    have HG2 := Lib.hid (HG.out.below hb2 HG.out.lt)
    clear hb2
    go_wp2_with fail
    refine (HP4.out _).mono ?_
    rintro e w3 ⟨rfl, rfl⟩
    go_wp2_with fail
    refine (HP2.out _).mono ?_
    rintro e w3 ⟨rfl, rfl⟩
    go_wp2_with fail
    refine (HLA.out _ (HTL.out.later HB2.out)).mono ?_
    rintro e w3 ⟨rfl, hb3⟩
    have HB3 := Lib.hid (bnext HB2.out hb3)
    have HG3 := Lib.hid (HG2.out.below hb3 HG2.out.lt)
    clear hb3
    rw [h1]
    obtain ⟨p0, p1, p2, p3, _, _, _, _⟩ := HG3.out.four
    go_wp2_with fail
    go_ret
    exact ⟨rfl, HB3.out⟩
  have h1' : largeB l 300 = false := by simpa using h1
  clear h1
  by_cases h2 : largeT (.mk k0 n0 s tl) 300 = true
  · go_enter Try.func6, Try.ntmps6
    go_wp2_with fail
    rw [HW.out]
    refine (HK.out _).mono ?_
    rintro e w2 ⟨rfl, hb2⟩
    have HB2 := Lib.hid (bnext HR.out hb2)
    have HG2 := Lib.hid (HG.out.below hb2 HG.out.lt)
    clear hb2
    go_wp2_with fail
    refine (HP4.out _).mono ?_
    rintro e w3 ⟨rfl, rfl⟩
    go_wp2_with fail
    refine (HP2.out _).mono ?_
    rintro e w3 ⟨rfl, rfl⟩
    go_wp2_with fail
    refine (HLA.out _ (HTL.out.later HB2.out)).mono ?_
    rintro e w3 ⟨rfl, hb3⟩
    have HB3 := Lib.hid (bnext HB2.out hb3)
    have HG3 := Lib.hid (HG2.out.below hb3 HG2.out.lt)
    clear hb3
    rw [h1']
    obtain ⟨p0, p1, p2, p3, _, _, _, _⟩ := HG3.out.four
    go_wp2_with fail
    refine (HLT.out _ _ (HTA.out.later HB3.out)).mono ?_
    rintro e w4 ⟨rfl, hb4⟩
    have HB4 := Lib.hid (bnext HB3.out hb4)
    have HG4 := Lib.hid (HG3.out.below hb4 HG3.out.lt)
    clear hb4 p0 p1 p2 p3
    rw [h2]
    go_wp2_with fail
    go_ret
    exact ⟨rfl, HB4.out⟩
  have h2' : largeT (.mk k0 n0 s tl) 300 = false := by simpa using h2
  clear h2
  have hn := small_all h1' (show 300 ≤ 1048576 by omega)
  have hlen : l.length ≤ 300 := Nat.le_trans (nodesL_len l) (small_all h1' (Nat.le_refl _))
  have hnt := small_nodes h2' (show 300 ≤ 1048576 by omega)
  have hn2 : nodesL (l ++ [.mk k0 n0 s tl]) ≤ 1048576 := by
    rw [nodesL_append, nodesL_cons, nodesL_nil]
    have := small_all h1' (Nat.le_refl _)
    have := small_nodes h2' (Nat.le_refl _)
    omega
  obtain ⟨t, htm⟩ : ∃ t, Tm.mk k0 n0 s tl = t := ⟨_, rfl⟩
  have HS := Lib.hid (fun w h => sum_any (1 + x) b l A c w h hn)
  have HS2 := Lib.hid (fun b A c w h => sum_any (1 + x) b (l ++ [t]) A c w h (htm ▸ hn2))
  have HPu := Lib.hid (fun v w h => put_any (1 + x) b (l.length : Int) t v w h (htm ▸ hnt))
  have HOb := Lib.hid (fun v w h => obj_any t v w h (htm ▸ hnt))
  rw [htm] at HTA HLT h2'
  have HTM := Lib.hid htm
  clear hn hnt hn2 htm
  obtain ⟨sN, hsN⟩ : ∃ y, sumsN (1 + x) b l = y := ⟨_, rfl⟩
  obtain ⟨sE, hsE⟩ : ∃ y, sumsE (1 + x) b l = y := ⟨_, rfl⟩
  obtain ⟨pN, hpN⟩ : ∃ y, putN (1 + x) b (l.length : Int) t = y := ⟨_, rfl⟩
  obtain ⟨pE, hpE⟩ : ∃ y, putE (1 + x) b (l.length : Int) t = y := ⟨_, rfl⟩
  rw [hsN, hsE] at HS
  rw [hpN, hpE] at HPu
  by_cases hs0 : sE = 0
  case neg =>
    have hne : (sE != 0) = true := by simpa using hs0
    have hne2 : (sE == 0) = false := by simpa using hs0
    clear hsN hsE hpN hpE
    go_enter Try.func6, Try.ntmps6
    go_wp2_with fail
    rw [HW.out]
    refine (HK.out _).mono ?_
    rintro e w2 ⟨rfl, hb2⟩
    have HB2 := Lib.hid (bnext HR.out hb2)
    have HG2 := Lib.hid (HG.out.below hb2 HG.out.lt)
    clear hb2
    go_wp2_with fail
    refine (HP4.out _).mono ?_
    rintro e w3 ⟨rfl, rfl⟩
    go_wp2_with fail
    refine (HP2.out _).mono ?_
    rintro e w3 ⟨rfl, rfl⟩
    go_wp2_with fail
    refine (HLA.out _ (HTL.out.later HB2.out)).mono ?_
    rintro e w3 ⟨rfl, hb3⟩
    have HB3 := Lib.hid (bnext HB2.out hb3)
    have HG3 := Lib.hid (HG2.out.below hb3 HG2.out.lt)
    clear hb3
    rw [h1']
    obtain ⟨p0, p1, p2, p3, _, _, _, _⟩ := HG3.out.four
    go_wp2_with fail
    refine (HLT.out _ _ (HTA.out.later HB3.out)).mono ?_
    rintro e w4 ⟨rfl, hb4⟩
    have HB4 := Lib.hid (bnext HB3.out hb4)
    have HG4 := Lib.hid (HG3.out.below hb4 HG3.out.lt)
    clear hb4 p0 p1 p2 p3
    rw [h2']
    go_wp2_with fail
    refine (HS.out _ (HTL.out.later HB4.out)).mono ?_
    rintro e w5 ⟨rfl, hb5⟩
    have HB5 := Lib.hid (bnext HB4.out hb5)
    have HG5 := Lib.hid (HG4.out.below hb5 HG4.out.lt)
    clear hb5
    obtain ⟨p0, p1, p2, p3, _, _, _, _⟩ := HG5.out.four
    go_wp2_with fail
    refine (HPu.out _ _ (HTA.out.later HB5.out)).mono ?_
    rintro e w6 ⟨rfl, hb6⟩
    have HB6 := Lib.hid (bnext HB5.out hb6)
    have HG6 := Lib.hid (HG5.out.below hb6 HG5.out.lt)
    clear hb6 p0 p1 p2 p3
    go_wp2_with fail
    go_ret
    exact ⟨rfl, HB6.out⟩
  subst hs0
  by_cases hp0 : pE = 0
  case neg =>
    have hne : (pE != 0) = true := by simpa using hp0
    have hne2 : (pE == 0) = false := by simpa using hp0
    clear hsN hsE hpN hpE
    go_enter Try.func6, Try.ntmps6
    go_wp2_with fail
    rw [HW.out]
    refine (HK.out _).mono ?_
    rintro e w2 ⟨rfl, hb2⟩
    have HB2 := Lib.hid (bnext HR.out hb2)
    have HG2 := Lib.hid (HG.out.below hb2 HG.out.lt)
    clear hb2
    go_wp2_with fail
    refine (HP4.out _).mono ?_
    rintro e w3 ⟨rfl, rfl⟩
    go_wp2_with fail
    refine (HP2.out _).mono ?_
    rintro e w3 ⟨rfl, rfl⟩
    go_wp2_with fail
    refine (HLA.out _ (HTL.out.later HB2.out)).mono ?_
    rintro e w3 ⟨rfl, hb3⟩
    have HB3 := Lib.hid (bnext HB2.out hb3)
    have HG3 := Lib.hid (HG2.out.below hb3 HG2.out.lt)
    clear hb3
    rw [h1']
    obtain ⟨p0, p1, p2, p3, _, _, _, _⟩ := HG3.out.four
    go_wp2_with fail
    refine (HLT.out _ _ (HTA.out.later HB3.out)).mono ?_
    rintro e w4 ⟨rfl, hb4⟩
    have HB4 := Lib.hid (bnext HB3.out hb4)
    have HG4 := Lib.hid (HG3.out.below hb4 HG3.out.lt)
    clear hb4 p0 p1 p2 p3
    rw [h2']
    go_wp2_with fail
    refine (HS.out _ (HTL.out.later HB4.out)).mono ?_
    rintro e w5 ⟨rfl, hb5⟩
    have HB5 := Lib.hid (bnext HB4.out hb5)
    have HG5 := Lib.hid (HG4.out.below hb5 HG4.out.lt)
    clear hb5
    obtain ⟨p0, p1, p2, p3, _, _, _, _⟩ := HG5.out.four
    go_wp2_with fail
    refine (HPu.out _ _ (HTA.out.later HB5.out)).mono ?_
    rintro e w6 ⟨rfl, hb6⟩
    have HB6 := Lib.hid (bnext HB5.out hb6)
    have HG6 := Lib.hid (HG5.out.below hb6 HG5.out.lt)
    clear hb6 p0 p1 p2 p3
    go_wp2_with fail
    go_ret
    exact ⟨rfl, HB6.out⟩
  subst hp0
  have hs : sumE l = 0 := by
    unfold sumsE at hsE
    rw [if_neg (fun h => by unfold badP at h; omega)] at hsE
    exact hsE
  have ht : chk t = 0 := by
    unfold putE at hpE
    rw [if_neg (fun h => by rcases h with h | h | h <;> first | (unfold badP at h; omega) | omega)] at hpE
    exact hpE
  have hw := chk_wds ht
  have hr := rndI_range hw.1 hw.2
  have hrr := rndI_rndI hw.1 hw.2
  have GR := Lib.hid (fun later hlat => grows (k := 1 + x) (b := b) (l := l) (t := t) (by omega) (by omega) hlen hs ht later hlat)
  have bs := base_range (1 + x) b
  have sr : 0 ≤ sN ∧ sN ≤ 100000000 := by
    rw [← hsN]
    unfold sumsN
    rw [if_neg (fun h => by unfold badP at h; omega), sumN_ok _ _ _ hs]
    have := sumN_range (1 + x) l hs
    omega
  have bb := bktN_range b
  have bb1 := bktN_range (b + 1)
  have nk := nodeK_range (1 + x)
  have pr : 0 ≤ rndI (wds t) + nodeK (1 + x) ∧ pN ≤ 100000000 := by
    rw [← hpN]
    unfold putN
    rw [if_neg (fun h => by rcases h with h | h | h <;> first | (unfold badP at h; omega) | omega), if_pos ht]
    split <;> omega
  have pr2 : rndI (wds t) + nodeK (1 + x) ≤ pN := by
    rw [← hpN]
    have := bktN_mono b (by omega) (by omega)
    unfold putN
    rw [if_neg (fun h => by rcases h with h | h | h <;> first | (unfold badP at h; omega) | omega), if_pos ht]
    split <;> omega
  rw [hsN, hpN] at GR
  obtain ⟨q, hq⟩ : ∃ y, rndI (wds t) = y := ⟨_, rfl⟩
  obtain ⟨nk, hnk⟩ : ∃ y, nodeK (1 + x) = y := ⟨_, rfl⟩
  rw [hq] at hr hrr pr pr2 GR
  rw [hnk] at pr pr2
  have HRd := Lib.hid (fun w => hrr ▸ round_any q (WalkArith.wf_i64 (by omega)) w)
  have HNd := Lib.hid (fun w => hnk ▸ node_any (1 + x) w)
  have nk1 : 0 ≤ nk ∧ nk ≤ 6 := by rw [← hnk]; exact nodeK_range _
  clear hsN hsE hpN hpE hs ht hrr hq hnk bs bb bb1 hw
  obtain ⟨sr1, sr2⟩ := sr
  obtain ⟨pr3, pr4⟩ := pr
  obtain ⟨hr1, hr2⟩ := hr
  obtain ⟨nk2, nk3⟩ := nk1
  by_cases hmore : 1 + x ≠ 2 ∧ 2 * b < (l.length : Int) + 1
  · have G := GR.out (b + 1) (if_pos hmore).symm
    have GR2 := Lib.hid (And.intro G.2.2.2.2.1 G.2.2.2.2.2)
    have G3 := fun A c w h => HS2.out (b + 1) A c w h
    rw [G.1, G.2.1] at G3
    obtain ⟨m9, hm9⟩ : ∃ m, (l ++ [t]).length = m := ⟨_, rfl⟩
    rw [hm9] at G3
    have HS3 := Lib.hid G3
    have HLN := Lib.hid hm9
    clear G G3 hm9
    obtain ⟨m1, m2⟩ := hmore
    have hne : (1 + x != 2) = true := by simpa using m1
    have hne2 : (1 + x == 2) = false := by simpa using m1
    clear m1
    go_enter Try.func6, Try.ntmps6
    go_wp2_with fail
    rw [HW.out]
    refine (HK.out _).mono ?_
    rintro e w2 ⟨rfl, hb2⟩
    have HB2 := Lib.hid (bnext HR.out hb2)
    have HG2 := Lib.hid (HG.out.below hb2 HG.out.lt)
    clear hb2
    go_wp2_with fail
    refine (HP4.out _).mono ?_
    rintro e w3 ⟨rfl, rfl⟩
    go_wp2_with fail
    refine (HP2.out _).mono ?_
    rintro e w3 ⟨rfl, rfl⟩
    go_wp2_with fail
    refine (HLA.out _ (HTL.out.later HB2.out)).mono ?_
    rintro e w3 ⟨rfl, hb3⟩
    have HB3 := Lib.hid (bnext HB2.out hb3)
    have HG3 := Lib.hid (HG2.out.below hb3 HG2.out.lt)
    clear hb3
    rw [h1']
    obtain ⟨p0, p1, p2, p3, _, _, _, _⟩ := HG3.out.four
    go_wp2_with fail
    refine (HLT.out _ _ (HTA.out.later HB3.out)).mono ?_
    rintro e w4 ⟨rfl, hb4⟩
    have HB4 := Lib.hid (bnext HB3.out hb4)
    have HG4 := Lib.hid (HG3.out.below hb4 HG3.out.lt)
    clear hb4 p0 p1 p2 p3
    rw [h2']
    go_wp2_with fail
    refine (HS.out _ (HTL.out.later HB4.out)).mono ?_
    rintro e w5 ⟨rfl, hb5⟩
    have HB5 := Lib.hid (bnext HB4.out hb5)
    have HG5 := Lib.hid (HG4.out.below hb5 HG4.out.lt)
    clear hb5
    obtain ⟨p0, p1, p2, p3, _, _, _, _⟩ := HG5.out.four
    go_wp2_with fail
    refine (HPu.out _ _ (HTA.out.later HB5.out)).mono ?_
    rintro e w6 ⟨rfl, hb6⟩
    have HB6 := Lib.hid (bnext HB5.out hb6)
    have HG6 := Lib.hid (HG5.out.below hb6 HG5.out.lt)
    clear hb6 p0 p1 p2 p3
    go_wp2_with fail
    have HL6 := Lib.hid (HTL.out.later HB6.out)
    have HTA6 := Lib.hid (HTA.out.later HB6.out)
    refine wp_region_by (by kernel_rfl) (by kernel_rfl) (fun L a' wx => ∃ x15 x16 x57 x58 x59 x60 x61 x62 x63 x64 x65 x66 x67 x68 x69 x70 x71 x72 x73 x74 x75 x76 x77 x78 x79, a' = { tmps := #[.int .i64 (1 + x), .int .i64 b, .slice A l.length c, .agg #[.int .i64 k0, .int .i64 n0, .string s, .slice At tl.length ct], undef, undef, undef, .pointer (some ⟨w.heap.size, 0, none⟩), .bool false, .bool true, .int .i64 sN, .int .i64 0, .int .i64 pN, .int .i64 0, .int .i64 (b + 1), x15, x16, undef, undef, .bool true, .int .i64 kd, .int .i64 x, .int .i64 (1 + x), .int .i64 bk, .int .i64 b, .slice A l.length c, .bool false, .bool false, .agg #[.int .i64 k0, .int .i64 n0, .string s, .slice At tl.length ct], .bool false, .bool false, undef, .tuple #[.int .i64 sN, .int .i64 0], .int .i64 (1 + x), .int .i64 b, .slice A l.length c, .tuple #[.int .i64 sN, .int .i64 0], .int .i64 sN, .int .i64 0, .tuple #[.int .i64 pN, .int .i64 0], .int .i64 (1 + x), .int .i64 b, .slice A l.length c, .int .i64 (l.length : Int), .agg #[.int .i64 k0, .int .i64 n0, .string s, .slice At tl.length ct], .tuple #[.int .i64 pN, .int .i64 0], .int .i64 pN, .int .i64 0, .int .i64 0, .bool false, .bool false, .int .i64 0, .bool false, .bool false, undef, .int .i64 b, .int .i64 (1 + x), x57, x58, x59, x60, x61, x62, x63, x64, x65, x66, x67, x68, x69, x70, x71, x72, x73, x74, x75, x76, x77, x78, x79, undef, undef, undef, undef, undef, undef, undef, undef, undef, undef, undef, undef, undef, undef, undef, undef, undef, undef, undef, undef, undef, undef, undef, undef, undef, undef, undef, undef, undef, undef, undef, undef, undef, undef, undef], defers := [] } ∧ Below w6.heap.size w6 wx ∧ (L 0 = true → x69 = .int .i64 (1 + x)) ∧ (L 1 = true → x70 = .int .i64 (b + 1)) ∧ (L 3 = true → x72 = .slice A l.length c) ∧ (L 5 = true → x74 = .agg #[.int .i64 k0, .int .i64 n0, .string s, .slice At tl.length ct]) ∧ (Grow w6.heap.size l t #[.int .i64 k0, .int .i64 n0, .string s, .slice At tl.length ct] (L 2) (L 4) (L 6) (L 7) x71 x73 x75 x76 wx) ∧ (L 8 = true → x77 = .tuple #[.int .i64 (sN + pN), .int .i64 0]) ∧ (L 9 = true → x68 = .tuple #[.int .i64 (sN + pN), .int .i64 0]) ∧ (L 10 = true → x78 = .int .i64 (sN + pN)) ∧ (L 11 = true → x79 = .int .i64 0) ∧ (L 12 = true → x15 = .int .i64 (sN + pN)) ∧ (L 13 = true → x16 = .int .i64 0)) ?_ ?_ ?_
    · exact ⟨_, _, _, _, _, _, _, _, _, _, _, _, _, _, _, _, _, _, _, _, _, _, _, _, _, rfl, btodrew (Below.refl _ _), nofun, nofun, nofun, nofun, Grow.start _ _ _ _, nofun, nofun, nofun, nofun, nofun, nofun⟩
    · rintro L a' wx ⟨x15, x16, x57, x58, x59, x60, x61, x62, x63, x64, x65, x66, x67, x68, x69, x70, x71, x72, x73, x74, x75, x76, x77, x78, x79, rfl, hb, h69, h70, h72, h74, hg, h77, h68, h78, h79, h15, h16⟩ hL
      have e15 := h15 (hL 12 (by decide))
      have e16 := h16 (hL 13 (by decide))
      obtain rfl := e15
      obtain rfl := e16
      have HB7 := Lib.hid (bnext HB6.out hb)
      have HG7 := Lib.hid (HG6.out.below hb HG6.out.lt)
      clear hb h69 h70 h72 h74 hg h77 h68 h78 h79 h15 h16 hL
      obtain ⟨p0, p1, p2, p3, _, _, _, _⟩ := HG7.out.four
      go_wp2_with fail
      refine (HOb.out _ _ (HTA.out.later HB7.out)).mono ?_
      rintro e w8 ⟨rfl, hb8⟩
      have HB8 := Lib.hid (bnext HB7.out hb8)
      clear hb8 p0 p1 p2 p3
      rw [GR2.out.1, GR2.out.2]
      go_wp2_with fail
      refine (HRd.out _).mono ?_
      rintro e w9 ⟨rfl, rfl⟩
      go_wp2_with fail
      refine (HNd.out _).mono ?_
      rintro e w9 ⟨rfl, hb9⟩
      have HB9 := Lib.hid (bnext HB8.out hb9)
      clear hb9
      go_wp2_with fail
      go_ret
      exact ⟨ret1_b (by first | (simp; done) | (simp; omega)), HB9.out⟩
    · rintro i o ho L a' wx ⟨x15, x16, x57, x58, x59, x60, x61, x62, x63, x64, x65, x66, x67, x68, x69, x70, x71, x72, x73, x74, x75, x76, x77, x78, x79, rfl, hb, h69, h70, h72, h74, hg, h77, h68, h78, h79, h15, h16⟩ hi hdep K hK
      rcases i with _ | _ | _ | _ | _ | _ | _ | _ | _ | _ | _ | _ | _ | _ | i
      · obtain rfl := Option.some.inj ho
        go_simp
        exact hK _ _ ⟨x15, x16, x57, x58, x59, x60, x61, x62, x63, x64, x65, x66, x67, x68, _, x70, x71, x72, x73, x74, x75, x76, x77, x78, x79, rfl, hb, fun _ => rfl, by simpa [upto] using h70, by simpa [upto] using h72, by simpa [upto] using h74, by simpa [upto] using hg, by simpa [upto] using h77, by simpa [upto] using h68, by simpa [upto] using h78, by simpa [upto] using h79, by simpa [upto] using h15, by simpa [upto] using h16⟩
      · obtain rfl := Option.some.inj ho
        go_simp
        exact hK _ _ ⟨x15, x16, x57, x58, x59, x60, x61, x62, x63, x64, x65, x66, x67, x68, x69, _, x71, x72, x73, x74, x75, x76, x77, x78, x79, rfl, hb, by simpa [upto] using h69, fun _ => rfl, by simpa [upto] using h72, by simpa [upto] using h74, by simpa [upto] using hg, by simpa [upto] using h77, by simpa [upto] using h68, by simpa [upto] using h78, by simpa [upto] using h79, by simpa [upto] using h15, by simpa [upto] using h16⟩
      · obtain rfl := Option.some.inj ho
        rw [hi] at hg
        go_simp
        exact hK _ _ ⟨x15, x16, x57, x58, x59, x60, x61, x62, x63, x64, x65, x66, x67, x68, x69, x70, _, x72, x73, x74, x75, x76, x77, x78, x79, rfl, ballocs hb _, by simpa [upto] using h69, by simpa [upto] using h70, by simpa [upto] using h72, by simpa [upto] using h74, by simpa [upto] using hg.mk0 hb.size, by simpa [upto] using h77, by simpa [upto] using h68, by simpa [upto] using h78, by simpa [upto] using h79, by simpa [upto] using h15, by simpa [upto] using h16⟩
      · obtain rfl := Option.some.inj ho
        go_simp
        exact hK _ _ ⟨x15, x16, x57, x58, x59, x60, x61, x62, x63, x64, x65, x66, x67, x68, x69, x70, x71, _, x73, x74, x75, x76, x77, x78, x79, rfl, hb, by simpa [upto] using h69, by simpa [upto] using h70, fun _ => rfl, by simpa [upto] using h74, by simpa [upto] using hg, by simpa [upto] using h77, by simpa [upto] using h68, by simpa [upto] using h78, by simpa [upto] using h79, by simpa [upto] using h15, by simpa [upto] using h16⟩
      · obtain rfl := Option.some.inj ho
        obtain rfl := h72 (hdep ⟨3, .data⟩ (by simp) rfl)
        have d2 := (hdep ⟨2, .data⟩ (by simp) rfl)
        rw [hi, d2] at hg
        obtain ⟨v', w', hrun, hR, hgr, hat⟩ := (hg.r0 rfl rfl).append (A := A) (c := c) (l' := l) hb.size (HL6.out.under hb fun b hb => hb) (by simp; omega)
        refine step_append_run (.tmp 71) (.tmp 72) 22 _ _ _ hrun rfl rfl (by simp [Act.eval, Act.put]) (by simp [Act.eval, Act.put]) ?_
        exact hK _ _ ⟨x15, x16, x57, x58, x59, x60, x61, x62, x63, x64, x65, x66, x67, x68, x69, x70, x71, _, _, x74, x75, x76, x77, x78, x79, rfl, hb.grown hgr hb.size (fun r hr => ((hg.r0 rfl rfl).lt r hr).1), by simpa [upto] using h69, by simpa [upto] using h70, fun _ => rfl, by simpa [upto] using h74, by simpa [upto, d2] using hg.app hb.size (by simpa using hR) hgr hat, by simpa [upto] using h77, by simpa [upto] using h68, by simpa [upto] using h78, by simpa [upto] using h79, by simpa [upto] using h15, by simpa [upto] using h16⟩
      · obtain rfl := Option.some.inj ho
        obtain ⟨a0, a1, a2, a3, _, _, _, _⟩ := (HG6.out.below hb HG6.out.lt).four
        go_simp
        exact hK _ _ ⟨x15, x16, x57, x58, x59, x60, x61, x62, x63, x64, x65, x66, x67, x68, x69, x70, x71, x72, x73, _, x75, x76, x77, x78, x79, rfl, hb, by simpa [upto] using h69, by simpa [upto] using h70, by simpa [upto] using h72, fun _ => rfl, by simpa [upto] using hg, by simpa [upto] using h77, by simpa [upto] using h68, by simpa [upto] using h78, by simpa [upto] using h79, by simpa [upto] using h15, by simpa [upto] using h16⟩
      · obtain rfl := Option.some.inj ho
        obtain rfl := h74 (hdep ⟨5, .data⟩ (by simp) rfl)
        rw [hi] at hg
        go_simp
        exact hK _ _ ⟨x15, x16, x57, x58, x59, x60, x61, x62, x63, x64, x65, x66, x67, x68, x69, x70, x71, x72, x73, _, _, x76, x77, x78, x79, rfl, ballocs hb _, by simpa [upto] using h69, by simpa [upto] using h70, by simpa [upto] using h72, fun _ => rfl, by simpa [upto] using hg.mk1 hb.size, by simpa [upto] using h77, by simpa [upto] using h68, by simpa [upto] using h78, by simpa [upto] using h79, by simpa [upto] using h15, by simpa [upto] using h16⟩
      · obtain rfl := Option.some.inj ho
        have d4 := (hdep ⟨4, .data⟩ (by simp) rfl)
        have d6 := (hdep ⟨6, .data⟩ (by simp) rfl)
        have d2 := hg.o1 d4
        rw [hi, d2, d4, d6] at hg
        obtain ⟨g, rfl, hg1, hg2, _⟩ := hg.b rfl rfl
        obtain ⟨v', w', hrun, hR, hgr, hat⟩ := (hg.r1 rfl rfl).one (t := t) (c := 1) hb.size hg2 (HTA6.out.under hb fun b hb => hb) (by omega)
        refine step_append_run (.tmp 73) (.tmp 75) 22 _ _ _ hrun rfl rfl (by simp [Act.eval, Act.put]) (by simp [Act.eval, Act.put]) ?_
        exact hK _ _ ⟨x15, x16, x57, x58, x59, x60, x61, x62, x63, x64, x65, x66, x67, x68, x69, x70, x71, x72, x73, x74, _, _, x77, x78, x79, rfl, hb.grown hgr hb.size (fun r hr => ((hg.r1 rfl rfl).lt r hr).1), by simpa [upto] using h69, by simpa [upto] using h70, by simpa [upto] using h72, by simpa [upto] using h74, by simpa [upto, d2, d4, d6] using hg.fin hR, by simpa [upto] using h77, by simpa [upto] using h68, by simpa [upto] using h78, by simpa [upto] using h79, by simpa [upto] using h15, by simpa [upto] using h16⟩
      · obtain rfl := Option.some.inj ho
        obtain rfl := h69 (hdep ⟨0, .data⟩ (by simp) rfl)
        obtain rfl := h70 (hdep ⟨1, .data⟩ (by simp) rfl)
        have d7 := (hdep ⟨7, .data⟩ (by simp) rfl)
        obtain ⟨A7, c7, rfl, h7⟩ := (hg.r2 d7).tsA hb.size
        rw [HLN.out] at hg ⊢
        go_simp
        refine (HS3.out _ _ _ h7).mono ?_
        rintro e w9 ⟨rfl, hb9⟩
        exact hK _ _ ⟨x15, x16, x57, x58, x59, x60, x61, x62, x63, x64, x65, x66, x67, x68, _, _, x71, x72, x73, x74, x75, _, _, x78, x79, rfl, bnext hb hb9, fun _ => rfl, fun _ => rfl, by simpa [upto] using h72, by simpa [upto] using h74, by simpa [upto] using hg.later hb.size hb9, fun _ => rfl, by simpa [upto] using h68, by simpa [upto] using h78, by simpa [upto] using h79, by simpa [upto] using h15, by simpa [upto] using h16⟩
      · obtain rfl := Option.some.inj ho
        obtain rfl := h77 (hdep ⟨8, .data⟩ (by simp) rfl)
        go_simp
        exact hK _ _ ⟨x15, x16, x57, x58, x59, x60, x61, x62, x63, x64, x65, x66, x67, _, x69, x70, x71, x72, x73, x74, x75, x76, _, x78, x79, rfl, hb, by simpa [upto] using h69, by simpa [upto] using h70, by simpa [upto] using h72, by simpa [upto] using h74, by simpa [upto] using hg, fun _ => rfl, fun _ => rfl, by simpa [upto] using h78, by simpa [upto] using h79, by simpa [upto] using h15, by simpa [upto] using h16⟩
      · obtain rfl := Option.some.inj ho
        obtain rfl := h68 (hdep ⟨9, .data⟩ (by simp) rfl)
        go_simp
        exact hK _ _ ⟨x15, x16, x57, x58, x59, x60, x61, x62, x63, x64, x65, x66, x67, _, x69, x70, x71, x72, x73, x74, x75, x76, x77, _, x79, rfl, hb, by simpa [upto] using h69, by simpa [upto] using h70, by simpa [upto] using h72, by simpa [upto] using h74, by simpa [upto] using hg, by simpa [upto] using h77, fun _ => rfl, fun _ => rfl, by simpa [upto] using h79, by simpa [upto] using h15, by simpa [upto] using h16⟩
      · obtain rfl := Option.some.inj ho
        obtain rfl := h68 (hdep ⟨9, .data⟩ (by simp) rfl)
        go_simp
        exact hK _ _ ⟨x15, x16, x57, x58, x59, x60, x61, x62, x63, x64, x65, x66, x67, _, x69, x70, x71, x72, x73, x74, x75, x76, x77, x78, _, rfl, hb, by simpa [upto] using h69, by simpa [upto] using h70, by simpa [upto] using h72, by simpa [upto] using h74, by simpa [upto] using hg, by simpa [upto] using h77, fun _ => rfl, by simpa [upto] using h78, fun _ => rfl, by simpa [upto] using h15, by simpa [upto] using h16⟩
      · obtain rfl := Option.some.inj ho
        obtain rfl := h78 (hdep ⟨10, .data⟩ (by simp) rfl)
        go_simp
        exact hK _ _ ⟨_, x16, x57, x58, x59, x60, x61, x62, x63, x64, x65, x66, x67, x68, x69, x70, x71, x72, x73, x74, x75, x76, x77, _, x79, rfl, hb, by simpa [upto] using h69, by simpa [upto] using h70, by simpa [upto] using h72, by simpa [upto] using h74, by simpa [upto] using hg, by simpa [upto] using h77, by simpa [upto] using h68, fun _ => rfl, by simpa [upto] using h79, fun _ => rfl, by simpa [upto] using h16⟩
      · obtain rfl := Option.some.inj ho
        obtain rfl := h79 (hdep ⟨11, .data⟩ (by simp) rfl)
        go_simp
        exact hK _ _ ⟨x15, _, x57, x58, x59, x60, x61, x62, x63, x64, x65, x66, x67, x68, x69, x70, x71, x72, x73, x74, x75, x76, x77, x78, _, rfl, hb, by simpa [upto] using h69, by simpa [upto] using h70, by simpa [upto] using h72, by simpa [upto] using h74, by simpa [upto] using hg, by simpa [upto] using h77, by simpa [upto] using h68, by simpa [upto] using h78, fun _ => rfl, by simpa [upto] using h15, fun _ => rfl⟩
      · simp at ho
  · by_cases hk2 : 1 + x = 2
    · have G := GR.out b (if_neg hmore).symm
      have GR2 := Lib.hid (And.intro G.2.2.2.2.1 G.2.2.2.2.2)
      have G3 := fun A c w h => HS2.out b A c w h
      rw [G.1, G.2.1] at G3
      obtain ⟨m9, hm9⟩ : ∃ m, (l ++ [t]).length = m := ⟨_, rfl⟩
      rw [hm9] at G3
      have HS3 := Lib.hid G3
      have HLN := Lib.hid hm9
      clear G G3 hm9
      have hne : (1 + x != 2) = false := by simpa using hk2
      have hne2 : (1 + x == 2) = true := by simpa using hk2
      clear hmore hk2
      go_enter Try.func6, Try.ntmps6
      go_wp2_with fail
      rw [HW.out]
      refine (HK.out _).mono ?_
      rintro e w2 ⟨rfl, hb2⟩
      have HB2 := Lib.hid (bnext HR.out hb2)
      have HG2 := Lib.hid (HG.out.below hb2 HG.out.lt)
      clear hb2
      go_wp2_with fail
      refine (HP4.out _).mono ?_
      rintro e w3 ⟨rfl, rfl⟩
      go_wp2_with fail
      refine (HP2.out _).mono ?_
      rintro e w3 ⟨rfl, rfl⟩
      go_wp2_with fail
      refine (HLA.out _ (HTL.out.later HB2.out)).mono ?_
      rintro e w3 ⟨rfl, hb3⟩
      have HB3 := Lib.hid (bnext HB2.out hb3)
      have HG3 := Lib.hid (HG2.out.below hb3 HG2.out.lt)
      clear hb3
      rw [h1']
      obtain ⟨p0, p1, p2, p3, _, _, _, _⟩ := HG3.out.four
      go_wp2_with fail
      refine (HLT.out _ _ (HTA.out.later HB3.out)).mono ?_
      rintro e w4 ⟨rfl, hb4⟩
      have HB4 := Lib.hid (bnext HB3.out hb4)
      have HG4 := Lib.hid (HG3.out.below hb4 HG3.out.lt)
      clear hb4 p0 p1 p2 p3
      rw [h2']
      go_wp2_with fail
      refine (HS.out _ (HTL.out.later HB4.out)).mono ?_
      rintro e w5 ⟨rfl, hb5⟩
      have HB5 := Lib.hid (bnext HB4.out hb5)
      have HG5 := Lib.hid (HG4.out.below hb5 HG4.out.lt)
      clear hb5
      obtain ⟨p0, p1, p2, p3, _, _, _, _⟩ := HG5.out.four
      go_wp2_with fail
      refine (HPu.out _ _ (HTA.out.later HB5.out)).mono ?_
      rintro e w6 ⟨rfl, hb6⟩
      have HB6 := Lib.hid (bnext HB5.out hb6)
      have HG6 := Lib.hid (HG5.out.below hb6 HG5.out.lt)
      clear hb6 p0 p1 p2 p3
      go_wp2_with fail
      have HL6 := Lib.hid (HTL.out.later HB6.out)
      have HTA6 := Lib.hid (HTA.out.later HB6.out)
      refine wp_region_by (by kernel_rfl) (by kernel_rfl) (fun L a' wx => ∃ x15 x16 x57 x58 x59 x60 x61 x62 x63 x64 x65 x66 x67 x68 x69 x70 x71 x72 x73 x74 x75 x76 x77 x78 x79, a' = { tmps := #[.int .i64 (1 + x), .int .i64 b, .slice A l.length c, .agg #[.int .i64 k0, .int .i64 n0, .string s, .slice At tl.length ct], undef, undef, undef, .pointer (some ⟨w.heap.size, 0, none⟩), .bool false, .bool true, .int .i64 sN, .int .i64 0, .int .i64 pN, .int .i64 0, .int .i64 b, x15, x16, undef, undef, .bool true, .int .i64 kd, .int .i64 x, .int .i64 (1 + x), .int .i64 bk, .int .i64 b, .slice A l.length c, .bool false, .bool false, .agg #[.int .i64 k0, .int .i64 n0, .string s, .slice At tl.length ct], .bool false, .bool false, undef, .tuple #[.int .i64 sN, .int .i64 0], .int .i64 (1 + x), .int .i64 b, .slice A l.length c, .tuple #[.int .i64 sN, .int .i64 0], .int .i64 sN, .int .i64 0, .tuple #[.int .i64 pN, .int .i64 0], .int .i64 (1 + x), .int .i64 b, .slice A l.length c, .int .i64 (l.length : Int), .agg #[.int .i64 k0, .int .i64 n0, .string s, .slice At tl.length ct], .tuple #[.int .i64 pN, .int .i64 0], .int .i64 pN, .int .i64 0, .int .i64 0, .bool false, .bool false, .int .i64 0, .bool false, .bool false, undef, .int .i64 b, .int .i64 (1 + x), x57, x58, x59, x60, x61, x62, x63, x64, x65, x66, x67, x68, x69, x70, x71, x72, x73, x74, x75, x76, x77, x78, x79, undef, undef, undef, undef, undef, undef, undef, undef, undef, undef, undef, undef, undef, undef, undef, undef, undef, undef, undef, undef, undef, undef, undef, undef, undef, undef, undef, undef, undef, undef, undef, undef, undef, undef, undef], defers := [] } ∧ Below w6.heap.size w6 wx ∧ (L 0 = true → x69 = .int .i64 (1 + x)) ∧ (L 1 = true → x70 = .int .i64 b) ∧ (L 3 = true → x72 = .slice A l.length c) ∧ (L 5 = true → x74 = .agg #[.int .i64 k0, .int .i64 n0, .string s, .slice At tl.length ct]) ∧ (Grow w6.heap.size l t #[.int .i64 k0, .int .i64 n0, .string s, .slice At tl.length ct] (L 2) (L 4) (L 6) (L 7) x71 x73 x75 x76 wx) ∧ (L 8 = true → x77 = .tuple #[.int .i64 (sN + pN), .int .i64 0]) ∧ (L 9 = true → x68 = .tuple #[.int .i64 (sN + pN), .int .i64 0]) ∧ (L 10 = true → x78 = .int .i64 (sN + pN)) ∧ (L 11 = true → x79 = .int .i64 0) ∧ (L 12 = true → x15 = .int .i64 (sN + pN)) ∧ (L 13 = true → x16 = .int .i64 0)) ?_ ?_ ?_
      · exact ⟨_, _, _, _, _, _, _, _, _, _, _, _, _, _, _, _, _, _, _, _, _, _, _, _, _, rfl, btodrew (Below.refl _ _), nofun, nofun, nofun, nofun, Grow.start _ _ _ _, nofun, nofun, nofun, nofun, nofun, nofun⟩
      · rintro L a' wx ⟨x15, x16, x57, x58, x59, x60, x61, x62, x63, x64, x65, x66, x67, x68, x69, x70, x71, x72, x73, x74, x75, x76, x77, x78, x79, rfl, hb, h69, h70, h72, h74, hg, h77, h68, h78, h79, h15, h16⟩ hL
        have e15 := h15 (hL 12 (by decide))
        have e16 := h16 (hL 13 (by decide))
        obtain rfl := e15
        obtain rfl := e16
        have HB7 := Lib.hid (bnext HB6.out hb)
        have HG7 := Lib.hid (HG6.out.below hb HG6.out.lt)
        clear hb h69 h70 h72 h74 hg h77 h68 h78 h79 h15 h16 hL
        obtain ⟨p0, p1, p2, p3, _, _, _, _⟩ := HG7.out.four
        go_wp2_with fail
        refine (HOb.out _ _ (HTA.out.later HB7.out)).mono ?_
        rintro e w8 ⟨rfl, hb8⟩
        have HB8 := Lib.hid (bnext HB7.out hb8)
        clear hb8 p0 p1 p2 p3
        rw [GR2.out.1, GR2.out.2]
        go_wp2_with fail
        refine (HRd.out _).mono ?_
        rintro e w9 ⟨rfl, rfl⟩
        go_wp2_with fail
        refine (HNd.out _).mono ?_
        rintro e w9 ⟨rfl, hb9⟩
        have HB9 := Lib.hid (bnext HB8.out hb9)
        clear hb9
        go_wp2_with fail
        go_ret
        exact ⟨ret1_b (by first | (simp; done) | (simp; omega)), HB9.out⟩
      · rintro i o ho L a' wx ⟨x15, x16, x57, x58, x59, x60, x61, x62, x63, x64, x65, x66, x67, x68, x69, x70, x71, x72, x73, x74, x75, x76, x77, x78, x79, rfl, hb, h69, h70, h72, h74, hg, h77, h68, h78, h79, h15, h16⟩ hi hdep K hK
        rcases i with _ | _ | _ | _ | _ | _ | _ | _ | _ | _ | _ | _ | _ | _ | i
        · obtain rfl := Option.some.inj ho
          go_simp
          exact hK _ _ ⟨x15, x16, x57, x58, x59, x60, x61, x62, x63, x64, x65, x66, x67, x68, _, x70, x71, x72, x73, x74, x75, x76, x77, x78, x79, rfl, hb, fun _ => rfl, by simpa [upto] using h70, by simpa [upto] using h72, by simpa [upto] using h74, by simpa [upto] using hg, by simpa [upto] using h77, by simpa [upto] using h68, by simpa [upto] using h78, by simpa [upto] using h79, by simpa [upto] using h15, by simpa [upto] using h16⟩
        · obtain rfl := Option.some.inj ho
          go_simp
          exact hK _ _ ⟨x15, x16, x57, x58, x59, x60, x61, x62, x63, x64, x65, x66, x67, x68, x69, _, x71, x72, x73, x74, x75, x76, x77, x78, x79, rfl, hb, by simpa [upto] using h69, fun _ => rfl, by simpa [upto] using h72, by simpa [upto] using h74, by simpa [upto] using hg, by simpa [upto] using h77, by simpa [upto] using h68, by simpa [upto] using h78, by simpa [upto] using h79, by simpa [upto] using h15, by simpa [upto] using h16⟩
        · obtain rfl := Option.some.inj ho
          rw [hi] at hg
          go_simp
          exact hK _ _ ⟨x15, x16, x57, x58, x59, x60, x61, x62, x63, x64, x65, x66, x67, x68, x69, x70, _, x72, x73, x74, x75, x76, x77, x78, x79, rfl, ballocs hb _, by simpa [upto] using h69, by simpa [upto] using h70, by simpa [upto] using h72, by simpa [upto] using h74, by simpa [upto] using hg.mk0 hb.size, by simpa [upto] using h77, by simpa [upto] using h68, by simpa [upto] using h78, by simpa [upto] using h79, by simpa [upto] using h15, by simpa [upto] using h16⟩
        · obtain rfl := Option.some.inj ho
          go_simp
          exact hK _ _ ⟨x15, x16, x57, x58, x59, x60, x61, x62, x63, x64, x65, x66, x67, x68, x69, x70, x71, _, x73, x74, x75, x76, x77, x78, x79, rfl, hb, by simpa [upto] using h69, by simpa [upto] using h70, fun _ => rfl, by simpa [upto] using h74, by simpa [upto] using hg, by simpa [upto] using h77, by simpa [upto] using h68, by simpa [upto] using h78, by simpa [upto] using h79, by simpa [upto] using h15, by simpa [upto] using h16⟩
        · obtain rfl := Option.some.inj ho
          obtain rfl := h72 (hdep ⟨3, .data⟩ (by simp) rfl)
          have d2 := (hdep ⟨2, .data⟩ (by simp) rfl)
          rw [hi, d2] at hg
          obtain ⟨v', w', hrun, hR, hgr, hat⟩ := (hg.r0 rfl rfl).append (A := A) (c := c) (l' := l) hb.size (HL6.out.under hb fun b hb => hb) (by simp; omega)
          refine step_append_run (.tmp 71) (.tmp 72) 22 _ _ _ hrun rfl rfl (by simp [Act.eval, Act.put]) (by simp [Act.eval, Act.put]) ?_
          exact hK _ _ ⟨x15, x16, x57, x58, x59, x60, x61, x62, x63, x64, x65, x66, x67, x68, x69, x70, x71, _, _, x74, x75, x76, x77, x78, x79, rfl, hb.grown hgr hb.size (fun r hr => ((hg.r0 rfl rfl).lt r hr).1), by simpa [upto] using h69, by simpa [upto] using h70, fun _ => rfl, by simpa [upto] using h74, by simpa [upto, d2] using hg.app hb.size (by simpa using hR) hgr hat, by simpa [upto] using h77, by simpa [upto] using h68, by simpa [upto] using h78, by simpa [upto] using h79, by simpa [upto] using h15, by simpa [upto] using h16⟩
        · obtain rfl := Option.some.inj ho
          obtain ⟨a0, a1, a2, a3, _, _, _, _⟩ := (HG6.out.below hb HG6.out.lt).four
          go_simp
          exact hK _ _ ⟨x15, x16, x57, x58, x59, x60, x61, x62, x63, x64, x65, x66, x67, x68, x69, x70, x71, x72, x73, _, x75, x76, x77, x78, x79, rfl, hb, by simpa [upto] using h69, by simpa [upto] using h70, by simpa [upto] using h72, fun _ => rfl, by simpa [upto] using hg, by simpa [upto] using h77, by simpa [upto] using h68, by simpa [upto] using h78, by simpa [upto] using h79, by simpa [upto] using h15, by simpa [upto] using h16⟩
        · obtain rfl := Option.some.inj ho
          obtain rfl := h74 (hdep ⟨5, .data⟩ (by simp) rfl)
          rw [hi] at hg
          go_simp
          exact hK _ _ ⟨x15, x16, x57, x58, x59, x60, x61, x62, x63, x64, x65, x66, x67, x68, x69, x70, x71, x72, x73, _, _, x76, x77, x78, x79, rfl, ballocs hb _, by simpa [upto] using h69, by simpa [upto] using h70, by simpa [upto] using h72, fun _ => rfl, by simpa [upto] using hg.mk1 hb.size, by simpa [upto] using h77, by simpa [upto] using h68, by simpa [upto] using h78, by simpa [upto] using h79, by simpa [upto] using h15, by simpa [upto] using h16⟩
        · obtain rfl := Option.some.inj ho
          have d4 := (hdep ⟨4, .data⟩ (by simp) rfl)
          have d6 := (hdep ⟨6, .data⟩ (by simp) rfl)
          have d2 := hg.o1 d4
          rw [hi, d2, d4, d6] at hg
          obtain ⟨g, rfl, hg1, hg2, _⟩ := hg.b rfl rfl
          obtain ⟨v', w', hrun, hR, hgr, hat⟩ := (hg.r1 rfl rfl).one (t := t) (c := 1) hb.size hg2 (HTA6.out.under hb fun b hb => hb) (by omega)
          refine step_append_run (.tmp 73) (.tmp 75) 22 _ _ _ hrun rfl rfl (by simp [Act.eval, Act.put]) (by simp [Act.eval, Act.put]) ?_
          exact hK _ _ ⟨x15, x16, x57, x58, x59, x60, x61, x62, x63, x64, x65, x66, x67, x68, x69, x70, x71, x72, x73, x74, _, _, x77, x78, x79, rfl, hb.grown hgr hb.size (fun r hr => ((hg.r1 rfl rfl).lt r hr).1), by simpa [upto] using h69, by simpa [upto] using h70, by simpa [upto] using h72, by simpa [upto] using h74, by simpa [upto, d2, d4, d6] using hg.fin hR, by simpa [upto] using h77, by simpa [upto] using h68, by simpa [upto] using h78, by simpa [upto] using h79, by simpa [upto] using h15, by simpa [upto] using h16⟩
        · obtain rfl := Option.some.inj ho
          obtain rfl := h69 (hdep ⟨0, .data⟩ (by simp) rfl)
          obtain rfl := h70 (hdep ⟨1, .data⟩ (by simp) rfl)
          have d7 := (hdep ⟨7, .data⟩ (by simp) rfl)
          obtain ⟨A7, c7, rfl, h7⟩ := (hg.r2 d7).tsA hb.size
          rw [HLN.out] at hg ⊢
          go_simp
          refine (HS3.out _ _ _ h7).mono ?_
          rintro e w9 ⟨rfl, hb9⟩
          exact hK _ _ ⟨x15, x16, x57, x58, x59, x60, x61, x62, x63, x64, x65, x66, x67, x68, _, _, x71, x72, x73, x74, x75, _, _, x78, x79, rfl, bnext hb hb9, fun _ => rfl, fun _ => rfl, by simpa [upto] using h72, by simpa [upto] using h74, by simpa [upto] using hg.later hb.size hb9, fun _ => rfl, by simpa [upto] using h68, by simpa [upto] using h78, by simpa [upto] using h79, by simpa [upto] using h15, by simpa [upto] using h16⟩
        · obtain rfl := Option.some.inj ho
          obtain rfl := h77 (hdep ⟨8, .data⟩ (by simp) rfl)
          go_simp
          exact hK _ _ ⟨x15, x16, x57, x58, x59, x60, x61, x62, x63, x64, x65, x66, x67, _, x69, x70, x71, x72, x73, x74, x75, x76, _, x78, x79, rfl, hb, by simpa [upto] using h69, by simpa [upto] using h70, by simpa [upto] using h72, by simpa [upto] using h74, by simpa [upto] using hg, fun _ => rfl, fun _ => rfl, by simpa [upto] using h78, by simpa [upto] using h79, by simpa [upto] using h15, by simpa [upto] using h16⟩
        · obtain rfl := Option.some.inj ho
          obtain rfl := h68 (hdep ⟨9, .data⟩ (by simp) rfl)
          go_simp
          exact hK _ _ ⟨x15, x16, x57, x58, x59, x60, x61, x62, x63, x64, x65, x66, x67, _, x69, x70, x71, x72, x73, x74, x75, x76, x77, _, x79, rfl, hb, by simpa [upto] using h69, by simpa [upto] using h70, by simpa [upto] using h72, by simpa [upto] using h74, by simpa [upto] using hg, by simpa [upto] using h77, fun _ => rfl, fun _ => rfl, by simpa [upto] using h79, by simpa [upto] using h15, by simpa [upto] using h16⟩
        · obtain rfl := Option.some.inj ho
          obtain rfl := h68 (hdep ⟨9, .data⟩ (by simp) rfl)
          go_simp
          exact hK _ _ ⟨x15, x16, x57, x58, x59, x60, x61, x62, x63, x64, x65, x66, x67, _, x69, x70, x71, x72, x73, x74, x75, x76, x77, x78, _, rfl, hb, by simpa [upto] using h69, by simpa [upto] using h70, by simpa [upto] using h72, by simpa [upto] using h74, by simpa [upto] using hg, by simpa [upto] using h77, fun _ => rfl, by simpa [upto] using h78, fun _ => rfl, by simpa [upto] using h15, by simpa [upto] using h16⟩
        · obtain rfl := Option.some.inj ho
          obtain rfl := h78 (hdep ⟨10, .data⟩ (by simp) rfl)
          go_simp
          exact hK _ _ ⟨_, x16, x57, x58, x59, x60, x61, x62, x63, x64, x65, x66, x67, x68, x69, x70, x71, x72, x73, x74, x75, x76, x77, _, x79, rfl, hb, by simpa [upto] using h69, by simpa [upto] using h70, by simpa [upto] using h72, by simpa [upto] using h74, by simpa [upto] using hg, by simpa [upto] using h77, by simpa [upto] using h68, fun _ => rfl, by simpa [upto] using h79, fun _ => rfl, by simpa [upto] using h16⟩
        · obtain rfl := Option.some.inj ho
          obtain rfl := h79 (hdep ⟨11, .data⟩ (by simp) rfl)
          go_simp
          exact hK _ _ ⟨x15, _, x57, x58, x59, x60, x61, x62, x63, x64, x65, x66, x67, x68, x69, x70, x71, x72, x73, x74, x75, x76, x77, x78, _, rfl, hb, by simpa [upto] using h69, by simpa [upto] using h70, by simpa [upto] using h72, by simpa [upto] using h74, by simpa [upto] using hg, by simpa [upto] using h77, by simpa [upto] using h68, by simpa [upto] using h78, fun _ => rfl, by simpa [upto] using h15, fun _ => rfl⟩
        · simp at ho
    · have G := GR.out b (if_neg hmore).symm
      have GR2 := Lib.hid (And.intro G.2.2.2.2.1 G.2.2.2.2.2)
      have G3 := fun A c w h => HS2.out b A c w h
      rw [G.1, G.2.1] at G3
      obtain ⟨m9, hm9⟩ : ∃ m, (l ++ [t]).length = m := ⟨_, rfl⟩
      rw [hm9] at G3
      have HS3 := Lib.hid G3
      have HLN := Lib.hid hm9
      clear G G3 hm9
      have hne : (1 + x != 2) = true := by simpa using hk2
      have hne2 : (1 + x == 2) = false := by simpa using hk2
      have m2 : ¬ 2 * b < (l.length : Int) + 1 := fun h => hmore ⟨hk2, h⟩
      clear hmore hk2
      go_enter Try.func6, Try.ntmps6
      go_wp2_with fail
      rw [HW.out]
      refine (HK.out _).mono ?_
      rintro e w2 ⟨rfl, hb2⟩
      have HB2 := Lib.hid (bnext HR.out hb2)
      have HG2 := Lib.hid (HG.out.below hb2 HG.out.lt)
      clear hb2
      go_wp2_with fail
      refine (HP4.out _).mono ?_
      rintro e w3 ⟨rfl, rfl⟩
      go_wp2_with fail
      refine (HP2.out _).mono ?_
      rintro e w3 ⟨rfl, rfl⟩
      go_wp2_with fail
      refine (HLA.out _ (HTL.out.later HB2.out)).mono ?_
      rintro e w3 ⟨rfl, hb3⟩
      have HB3 := Lib.hid (bnext HB2.out hb3)
      have HG3 := Lib.hid (HG2.out.below hb3 HG2.out.lt)
      clear hb3
      rw [h1']
      obtain ⟨p0, p1, p2, p3, _, _, _, _⟩ := HG3.out.four
      go_wp2_with fail
      refine (HLT.out _ _ (HTA.out.later HB3.out)).mono ?_
      rintro e w4 ⟨rfl, hb4⟩
      have HB4 := Lib.hid (bnext HB3.out hb4)
      have HG4 := Lib.hid (HG3.out.below hb4 HG3.out.lt)
      clear hb4 p0 p1 p2 p3
      rw [h2']
      go_wp2_with fail
      refine (HS.out _ (HTL.out.later HB4.out)).mono ?_
      rintro e w5 ⟨rfl, hb5⟩
      have HB5 := Lib.hid (bnext HB4.out hb5)
      have HG5 := Lib.hid (HG4.out.below hb5 HG4.out.lt)
      clear hb5
      obtain ⟨p0, p1, p2, p3, _, _, _, _⟩ := HG5.out.four
      go_wp2_with fail
      refine (HPu.out _ _ (HTA.out.later HB5.out)).mono ?_
      rintro e w6 ⟨rfl, hb6⟩
      have HB6 := Lib.hid (bnext HB5.out hb6)
      have HG6 := Lib.hid (HG5.out.below hb6 HG5.out.lt)
      clear hb6 p0 p1 p2 p3
      go_wp2_with fail
      have HL6 := Lib.hid (HTL.out.later HB6.out)
      have HTA6 := Lib.hid (HTA.out.later HB6.out)
      refine wp_region_by (by kernel_rfl) (by kernel_rfl) (fun L a' wx => ∃ x15 x16 x57 x58 x59 x60 x61 x62 x63 x64 x65 x66 x67 x68 x69 x70 x71 x72 x73 x74 x75 x76 x77 x78 x79, a' = { tmps := #[.int .i64 (1 + x), .int .i64 b, .slice A l.length c, .agg #[.int .i64 k0, .int .i64 n0, .string s, .slice At tl.length ct], undef, undef, undef, .pointer (some ⟨w.heap.size, 0, none⟩), .bool false, .bool true, .int .i64 sN, .int .i64 0, .int .i64 pN, .int .i64 0, .int .i64 b, x15, x16, undef, undef, .bool true, .int .i64 kd, .int .i64 x, .int .i64 (1 + x), .int .i64 bk, .int .i64 b, .slice A l.length c, .bool false, .bool false, .agg #[.int .i64 k0, .int .i64 n0, .string s, .slice At tl.length ct], .bool false, .bool false, undef, .tuple #[.int .i64 sN, .int .i64 0], .int .i64 (1 + x), .int .i64 b, .slice A l.length c, .tuple #[.int .i64 sN, .int .i64 0], .int .i64 sN, .int .i64 0, .tuple #[.int .i64 pN, .int .i64 0], .int .i64 (1 + x), .int .i64 b, .slice A l.length c, .int .i64 (l.length : Int), .agg #[.int .i64 k0, .int .i64 n0, .string s, .slice At tl.length ct], .tuple #[.int .i64 pN, .int .i64 0], .int .i64 pN, .int .i64 0, .int .i64 0, .bool false, .bool false, .int .i64 0, .bool false, .bool false, undef, .int .i64 b, .int .i64 (1 + x), x57, x58, x59, x60, x61, x62, x63, x64, x65, x66, x67, x68, x69, x70, x71, x72, x73, x74, x75, x76, x77, x78, x79, undef, undef, undef, undef, undef, undef, undef, undef, undef, undef, undef, undef, undef, undef, undef, undef, undef, undef, undef, undef, undef, undef, undef, undef, undef, undef, undef, undef, undef, undef, undef, undef, undef, undef, undef], defers := [] } ∧ Below w6.heap.size w6 wx ∧ (L 0 = true → x69 = .int .i64 (1 + x)) ∧ (L 1 = true → x70 = .int .i64 b) ∧ (L 3 = true → x72 = .slice A l.length c) ∧ (L 5 = true → x74 = .agg #[.int .i64 k0, .int .i64 n0, .string s, .slice At tl.length ct]) ∧ (Grow w6.heap.size l t #[.int .i64 k0, .int .i64 n0, .string s, .slice At tl.length ct] (L 2) (L 4) (L 6) (L 7) x71 x73 x75 x76 wx) ∧ (L 8 = true → x77 = .tuple #[.int .i64 (sN + pN), .int .i64 0]) ∧ (L 9 = true → x68 = .tuple #[.int .i64 (sN + pN), .int .i64 0]) ∧ (L 10 = true → x78 = .int .i64 (sN + pN)) ∧ (L 11 = true → x79 = .int .i64 0) ∧ (L 12 = true → x15 = .int .i64 (sN + pN)) ∧ (L 13 = true → x16 = .int .i64 0)) ?_ ?_ ?_
      · exact ⟨_, _, _, _, _, _, _, _, _, _, _, _, _, _, _, _, _, _, _, _, _, _, _, _, _, rfl, btodrew (Below.refl _ _), nofun, nofun, nofun, nofun, Grow.start _ _ _ _, nofun, nofun, nofun, nofun, nofun, nofun⟩
      · rintro L a' wx ⟨x15, x16, x57, x58, x59, x60, x61, x62, x63, x64, x65, x66, x67, x68, x69, x70, x71, x72, x73, x74, x75, x76, x77, x78, x79, rfl, hb, h69, h70, h72, h74, hg, h77, h68, h78, h79, h15, h16⟩ hL
        have e15 := h15 (hL 12 (by decide))
        have e16 := h16 (hL 13 (by decide))
        obtain rfl := e15
        obtain rfl := e16
        have HB7 := Lib.hid (bnext HB6.out hb)
        have HG7 := Lib.hid (HG6.out.below hb HG6.out.lt)
        clear hb h69 h70 h72 h74 hg h77 h68 h78 h79 h15 h16 hL
        obtain ⟨p0, p1, p2, p3, _, _, _, _⟩ := HG7.out.four
        go_wp2_with fail
        refine (HOb.out _ _ (HTA.out.later HB7.out)).mono ?_
        rintro e w8 ⟨rfl, hb8⟩
        have HB8 := Lib.hid (bnext HB7.out hb8)
        clear hb8 p0 p1 p2 p3
        rw [GR2.out.1, GR2.out.2]
        go_wp2_with fail
        refine (HRd.out _).mono ?_
        rintro e w9 ⟨rfl, rfl⟩
        go_wp2_with fail
        refine (HNd.out _).mono ?_
        rintro e w9 ⟨rfl, hb9⟩
        have HB9 := Lib.hid (bnext HB8.out hb9)
        clear hb9
        go_wp2_with fail
        go_ret
        exact ⟨ret1_b (by first | (simp; done) | (simp; omega)), HB9.out⟩
      · rintro i o ho L a' wx ⟨x15, x16, x57, x58, x59, x60, x61, x62, x63, x64, x65, x66, x67, x68, x69, x70, x71, x72, x73, x74, x75, x76, x77, x78, x79, rfl, hb, h69, h70, h72, h74, hg, h77, h68, h78, h79, h15, h16⟩ hi hdep K hK
        rcases i with _ | _ | _ | _ | _ | _ | _ | _ | _ | _ | _ | _ | _ | _ | i
        · obtain rfl := Option.some.inj ho
          go_simp
          exact hK _ _ ⟨x15, x16, x57, x58, x59, x60, x61, x62, x63, x64, x65, x66, x67, x68, _, x70, x71, x72, x73, x74, x75, x76, x77, x78, x79, rfl, hb, fun _ => rfl, by simpa [upto] using h70, by simpa [upto] using h72, by simpa [upto] using h74, by simpa [upto] using hg, by simpa [upto] using h77, by simpa [upto] using h68, by simpa [upto] using h78, by simpa [upto] using h79, by simpa [upto] using h15, by simpa [upto] using h16⟩
        · obtain rfl := Option.some.inj ho
          go_simp
          exact hK _ _ ⟨x15, x16, x57, x58, x59, x60, x61, x62, x63, x64, x65, x66, x67, x68, x69, _, x71, x72, x73, x74, x75, x76, x77, x78, x79, rfl, hb, by simpa [upto] using h69, fun _ => rfl, by simpa [upto] using h72, by simpa [upto] using h74, by simpa [upto] using hg, by simpa [upto] using h77, by simpa [upto] using h68, by simpa [upto] using h78, by simpa [upto] using h79, by simpa [upto] using h15, by simpa [upto] using h16⟩
        · obtain rfl := Option.some.inj ho
          rw [hi] at hg
          go_simp
          exact hK _ _ ⟨x15, x16, x57, x58, x59, x60, x61, x62, x63, x64, x65, x66, x67, x68, x69, x70, _, x72, x73, x74, x75, x76, x77, x78, x79, rfl, ballocs hb _, by simpa [upto] using h69, by simpa [upto] using h70, by simpa [upto] using h72, by simpa [upto] using h74, by simpa [upto] using hg.mk0 hb.size, by simpa [upto] using h77, by simpa [upto] using h68, by simpa [upto] using h78, by simpa [upto] using h79, by simpa [upto] using h15, by simpa [upto] using h16⟩
        · obtain rfl := Option.some.inj ho
          go_simp
          exact hK _ _ ⟨x15, x16, x57, x58, x59, x60, x61, x62, x63, x64, x65, x66, x67, x68, x69, x70, x71, _, x73, x74, x75, x76, x77, x78, x79, rfl, hb, by simpa [upto] using h69, by simpa [upto] using h70, fun _ => rfl, by simpa [upto] using h74, by simpa [upto] using hg, by simpa [upto] using h77, by simpa [upto] using h68, by simpa [upto] using h78, by simpa [upto] using h79, by simpa [upto] using h15, by simpa [upto] using h16⟩
        · obtain rfl := Option.some.inj ho
          obtain rfl := h72 (hdep ⟨3, .data⟩ (by simp) rfl)
          have d2 := (hdep ⟨2, .data⟩ (by simp) rfl)
          rw [hi, d2] at hg
          obtain ⟨v', w', hrun, hR, hgr, hat⟩ := (hg.r0 rfl rfl).append (A := A) (c := c) (l' := l) hb.size (HL6.out.under hb fun b hb => hb) (by simp; omega)
          refine step_append_run (.tmp 71) (.tmp 72) 22 _ _ _ hrun rfl rfl (by simp [Act.eval, Act.put]) (by simp [Act.eval, Act.put]) ?_
          exact hK _ _ ⟨x15, x16, x57, x58, x59, x60, x61, x62, x63, x64, x65, x66, x67, x68, x69, x70, x71, _, _, x74, x75, x76, x77, x78, x79, rfl, hb.grown hgr hb.size (fun r hr => ((hg.r0 rfl rfl).lt r hr).1), by simpa [upto] using h69, by simpa [upto] using h70, fun _ => rfl, by simpa [upto] using h74, by simpa [upto, d2] using hg.app hb.size (by simpa using hR) hgr hat, by simpa [upto] using h77, by simpa [upto] using h68, by simpa [upto] using h78, by simpa [upto] using h79, by simpa [upto] using h15, by simpa [upto] using h16⟩
        · obtain rfl := Option.some.inj ho
          obtain ⟨a0, a1, a2, a3, _, _, _, _⟩ := (HG6.out.below hb HG6.out.lt).four
          go_simp
          exact hK _ _ ⟨x15, x16, x57, x58, x59, x60, x61, x62, x63, x64, x65, x66, x67, x68, x69, x70, x71, x72, x73, _, x75, x76, x77, x78, x79, rfl, hb, by simpa [upto] using h69, by simpa [upto] using h70, by simpa [upto] using h72, fun _ => rfl, by simpa [upto] using hg, by simpa [upto] using h77, by simpa [upto] using h68, by simpa [upto] using h78, by simpa [upto] using h79, by simpa [upto] using h15, by simpa [upto] using h16⟩
        · obtain rfl := Option.some.inj ho
          obtain rfl := h74 (hdep ⟨5, .data⟩ (by simp) rfl)
          rw [hi] at hg
          go_simp
          exact hK _ _ ⟨x15, x16, x57, x58, x59, x60, x61, x62, x63, x64, x65, x66, x67, x68, x69, x70, x71, x72, x73, _, _, x76, x77, x78, x79, rfl, ballocs hb _, by simpa [upto] using h69, by simpa [upto] using h70, by simpa [upto] using h72, fun _ => rfl, by simpa [upto] using hg.mk1 hb.size, by simpa [upto] using h77, by simpa [upto] using h68, by simpa [upto] using h78, by simpa [upto] using h79, by simpa [upto] using h15, by simpa [upto] using h16⟩
        · obtain rfl := Option.some.inj ho
          have d4 := (hdep ⟨4, .data⟩ (by simp) rfl)
          have d6 := (hdep ⟨6, .data⟩ (by simp) rfl)
          have d2 := hg.o1 d4
          rw [hi, d2, d4, d6] at hg
          obtain ⟨g, rfl, hg1, hg2, _⟩ := hg.b rfl rfl
          obtain ⟨v', w', hrun, hR, hgr, hat⟩ := (hg.r1 rfl rfl).one (t := t) (c := 1) hb.size hg2 (HTA6.out.under hb fun b hb => hb) (by omega)
          refine step_append_run (.tmp 73) (.tmp 75) 22 _ _ _ hrun rfl rfl (by simp [Act.eval, Act.put]) (by simp [Act.eval, Act.put]) ?_
          exact hK _ _ ⟨x15, x16, x57, x58, x59, x60, x61, x62, x63, x64, x65, x66, x67, x68, x69, x70, x71, x72, x73, x74, _, _, x77, x78, x79, rfl, hb.grown hgr hb.size (fun r hr => ((hg.r1 rfl rfl).lt r hr).1), by simpa [upto] using h69, by simpa [upto] using h70, by simpa [upto] using h72, by simpa [upto] using h74, by simpa [upto, d2, d4, d6] using hg.fin hR, by simpa [upto] using h77, by simpa [upto] using h68, by simpa [upto] using h78, by simpa [upto] using h79, by simpa [upto] using h15, by simpa [upto] using h16⟩
        · obtain rfl := Option.some.inj ho
          obtain rfl := h69 (hdep ⟨0, .data⟩ (by simp) rfl)
          obtain rfl := h70 (hdep ⟨1, .data⟩ (by simp) rfl)
          have d7 := (hdep ⟨7, .data⟩ (by simp) rfl)
          obtain ⟨A7, c7, rfl, h7⟩ := (hg.r2 d7).tsA hb.size
          rw [HLN.out] at hg ⊢
          go_simp
          refine (HS3.out _ _ _ h7).mono ?_
          rintro e w9 ⟨rfl, hb9⟩
          exact hK _ _ ⟨x15, x16, x57, x58, x59, x60, x61, x62, x63, x64, x65, x66, x67, x68, _, _, x71, x72, x73, x74, x75, _, _, x78, x79, rfl, bnext hb hb9, fun _ => rfl, fun _ => rfl, by simpa [upto] using h72, by simpa [upto] using h74, by simpa [upto] using hg.later hb.size hb9, fun _ => rfl, by simpa [upto] using h68, by simpa [upto] using h78, by simpa [upto] using h79, by simpa [upto] using h15, by simpa [upto] using h16⟩
        · obtain rfl := Option.some.inj ho
          obtain rfl := h77 (hdep ⟨8, .data⟩ (by simp) rfl)
          go_simp
          exact hK _ _ ⟨x15, x16, x57, x58, x59, x60, x61, x62, x63, x64, x65, x66, x67, _, x69, x70, x71, x72, x73, x74, x75, x76, _, x78, x79, rfl, hb, by simpa [upto] using h69, by simpa [upto] using h70, by simpa [upto] using h72, by simpa [upto] using h74, by simpa [upto] using hg, fun _ => rfl, fun _ => rfl, by simpa [upto] using h78, by simpa [upto] using h79, by simpa [upto] using h15, by simpa [upto] using h16⟩
        · obtain rfl := Option.some.inj ho
          obtain rfl := h68 (hdep ⟨9, .data⟩ (by simp) rfl)
          go_simp
          exact hK _ _ ⟨x15, x16, x57, x58, x59, x60, x61, x62, x63, x64, x65, x66, x67, _, x69, x70, x71, x72, x73, x74, x75, x76, x77, _, x79, rfl, hb, by simpa [upto] using h69, by simpa [upto] using h70, by simpa [upto] using h72, by simpa [upto] using h74, by simpa [upto] using hg, by simpa [upto] using h77, fun _ => rfl, fun _ => rfl, by simpa [upto] using h79, by simpa [upto] using h15, by simpa [upto] using h16⟩
        · obtain rfl := Option.some.inj ho
          obtain rfl := h68 (hdep ⟨9, .data⟩ (by simp) rfl)
          go_simp
          exact hK _ _ ⟨x15, x16, x57, x58, x59, x60, x61, x62, x63, x64, x65, x66, x67, _, x69, x70, x71, x72, x73, x74, x75, x76, x77, x78, _, rfl, hb, by simpa [upto] using h69, by simpa [upto] using h70, by simpa [upto] using h72, by simpa [upto] using h74, by simpa [upto] using hg, by simpa [upto] using h77, fun _ => rfl, by simpa [upto] using h78, fun _ => rfl, by simpa [upto] using h15, by simpa [upto] using h16⟩
        · obtain rfl := Option.some.inj ho
          obtain rfl := h78 (hdep ⟨10, .data⟩ (by simp) rfl)
          go_simp
          exact hK _ _ ⟨_, x16, x57, x58, x59, x60, x61, x62, x63, x64, x65, x66, x67, x68, x69, x70, x71, x72, x73, x74, x75, x76, x77, _, x79, rfl, hb, by simpa [upto] using h69, by simpa [upto] using h70, by simpa [upto] using h72, by simpa [upto] using h74, by simpa [upto] using hg, by simpa [upto] using h77, by simpa [upto] using h68, fun _ => rfl, by simpa [upto] using h79, fun _ => rfl, by simpa [upto] using h16⟩
        · obtain rfl := Option.some.inj ho
          obtain rfl := h79 (hdep ⟨11, .data⟩ (by simp) rfl)
          go_simp
          exact hK _ _ ⟨x15, _, x57, x58, x59, x60, x61, x62, x63, x64, x65, x66, x67, x68, x69, x70, x71, x72, x73, x74, x75, x76, x77, x78, _, rfl, hb, by simpa [upto] using h69, by simpa [upto] using h70, by simpa [upto] using h72, by simpa [upto] using h74, by simpa [upto] using hg, by simpa [upto] using h77, by simpa [upto] using h68, by simpa [upto] using h78, fun _ => rfl, by simpa [upto] using h15, fun _ => rfl⟩
        · simp at ho
theorem contract {H : Type} {enc : TypeId × Value → H} (W : World) {base : Nat} {r r' r'' r3 : Reach} {b b' b'' b3 : Nat} {hd hd' hd'' hd3 : Bool} {v0 v1 v2 v3 : Value} {d0 d1 d2 d3 : DataW H} {p0 p1 p2 p3 : List MemPlace}
    (o0 : Value.okWide Try.prog W r b 3 v0) (h0 : DataW.Trod enc Try.prog W base (fun _ => true) hd 3 v0 d0 p0) (o1 : Value.okWide Try.prog W r' b' 3 v1) (h1 : DataW.Trod enc Try.prog W base (fun _ => true) hd' 3 v1 d1 p1)
    (o2 : Value.okWide Try.prog W r'' b'' 22 v2) (h2 : DataW.Trod enc Try.prog W base (fun _ => true) hd'' 22 v2 d2 p2)
    (o3 : Value.okWide Try.prog W r3 b3 24 v3) (h3 : DataW.Trod enc Try.prog W base (fun _ => true) hd3 24 v3 d3 p3) {Q R : Prop} (_ : Q) (_ : R) :
    Calls Try.prog 6 #[v0, v1, v2, v3] W fun e w' => e = .returned (.bool true) ∧ Below W.heap.size W w' := by
  obtain ⟨a0, rfl, _, _, w0⟩ := open_int Try.underlying3 o0 h0
  obtain ⟨a1, rfl, _, _, w1⟩ := open_int Try.underlying3 o1 h1
  obtain ⟨A, c, l, rfl, hl, h4, h5, _⟩ := open_ts o2 h2
  obtain ⟨t, ht⟩ := open_t o3 h3
  exact walk a0 a1 l A c t v3 W w0 w1 hl (by omega) ht

theorem own : ownKnob Try.prog.godebug = none := by kernel_rfl
theorem laidOut : laidOutB Try.prog = true := by kernel_rfl
theorem readable : ∀ t ∈ Try.f6.params.toList, Try.prog.readableRec t = true ∧ t < Try.prog.types.size := by
  rw [show Try.f6.params = #[3, 3, 22, 24] from Try.params6]
  intro t h
  simp only [List.mem_cons, List.not_mem_nil, or_false] at h
  rcases h with rfl | rfl | rfl | rfl
  · exact ⟨by kernel_rfl, of_decide_eq_true (by kernel_rfl)⟩
  · exact ⟨by kernel_rfl, of_decide_eq_true (by kernel_rfl)⟩
  · exact ⟨by kernel_rfl, of_decide_eq_true (by kernel_rfl)⟩
  · exact ⟨by kernel_rfl, of_decide_eq_true (by kernel_rfl)⟩
set_option maxRecDepth 100000 in
theorem lifted (os : Os) (started : os.Started) (H : Type) (enc : TypeId × Value → H) :
    ReturnsInHanded {} Try.checked os 6 .any (Rows.needGrowsSpec.pre6 enc Try.prog Try.f6 Rows.needGrowsRow.domain false) (Rows.needGrowsSpec.post enc Try.prog Try.f6 false true false false) := by
  refine K.law_lift (C := Try.checked) (b := 4) own started (by kernel_rfl) Try.func6
    (ChangeSpec.witness6 (enc := enc) (C := Try.checked) false ⟨#[], #[.int .i64 0, .int .i64 0, .slice none 0 0, .agg #[.int .i64 0, .int .i64 0, .string .empty, .slice none 0 0]], []⟩ 8 (by kernel_rfl) (by kernel_rfl) (by kernel_rfl) (by kernel_rfl)) laidOut readable rfl rfl Try.underlying4 ?_ ?_
  · intro ds hds
    rw [show Try.f6.params = #[3, 3, 22, 24] from Try.params6] at hds
    match ds, hds with
    | [d0, d1, d2, d3], _ => rfl
  · intro W base args ds p hval hA hlt hsz
    rw [show Try.checked.prog = Try.prog from rfl] at hval hA hsz
    rw [show Try.f6.params = #[3, 3, 22, 24] from Try.params6] at hA hval hsz
    obtain ⟨v0, vs0, d0, ds0, p0, q0, hargs, rfl, rfl, h0, r0⟩ := trodAll_cons hA
    obtain ⟨v1, vs1, d1, ds1, p1, q1, rfl, rfl, rfl, h1, r1⟩ := trodAll_cons r0
    obtain ⟨v2, vs2, d2, ds2, p2, q2, rfl, rfl, rfl, h2, r2⟩ := trodAll_cons r1
    obtain ⟨v3, vs3, d3, ds3, p3, q3, rfl, rfl, rfl, h3, r3⟩ := trodAll_cons r2
    obtain ⟨rfl, rfl, rfl⟩ := trodAll_nil r3
    obtain rfl : args = #[v0, v1, v2, v3] := by cases args; simp_all
    exact contract W (hval 0 3 v0 rfl rfl) h0 (hval 1 3 v1 rfl rfl) h1 (hval 2 22 v2 rfl rfl) h2 (hval 3 24 v3 rfl rfl) h3 (fun x hx => hlt x hx) hsz

theorem over : Rows.needGrowsRow.holds Try.pinned (OpenSpec.ofChange Rows.needGrowsSpec) :=
  OpenClaim.holds_of_wide 6 Try.f6 rfl rfl rfl rfl rfl rfl rfl ⟨rfl, rfl, rfl, rfl, rfl⟩ rfl rfl rfl rfl rfl (by kernel_rfl) Try.func6 (by kernel_rfl)
    (of_decide_eq_true (by kernel_rfl)) (by unfold Func.isWrapper; rw [if_neg (of_decide_eq_false (by kernel_rfl))]; exact ⟨rfl, rfl⟩)
    (fun os started H enc _ => lifted os started H enc)

/-- THE STATEMENT -/
theorem proved : Rows.NeedGrowsSaid := over
#print axioms proved
end Go.Proofs.Ytofinjkgbbdbcaa.NeedGrows
