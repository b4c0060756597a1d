/- The law PatternFills returns true: what a variable is bound to, and what a pattern is, filled, is told as the document says. -/
import Derived.Test.YtlaplakaifmpeaaPatAwake
import Derived.Test.YtlaplakaifmpeaaPatLarge
import Derived.Test.YtlaplakaifmpeaaPatRefFi
import Derived.Test.YtlaplakaifmpeaaPatRefCp
import Derived.Test.YtlaplakaifmpeaaOverTm
import Derived.Test.YtlaplakaifmpeaaOpenBs
namespace Go.Proofs.Ytlaplakaifmpeaa.PatternFills
open Go.RowKit K Pt
open Go.ChangeShapes Go.WideShapes Go.ChangeAt
set_option linter.unusedVariables false
set_option linter.unusedSimpArgs false

def zT : Tm := .mk 0 0 ⟨#[]⟩ []
theorem zT_ta (w : World) (F : Nat → Prop) : TAt w F zT (tv zT none 0) := leafF w 0 0 ⟨#[]⟩ (by decide) (by decide) (by decide)
/-- A term told, or none: one form. -/
theorem opt_uni {w w' : World} {o : Option Tm} {e : Ending} (h : OptPost w o e w') : ∃ A c, e = .returned (.tuple #[tv (o.getD zT) A c, .bool o.isSome]) ∧ TAt w' (Fr w w') (o.getD zT) (tv (o.getD zT) A c) ∧ Wk w' (Fr w w') LV (tv (o.getD zT) A c) ∧ Below w.heap.size w w' := by
  obtain ⟨hb, ⟨rfl, rfl⟩ | ⟨t, A, c, rfl, rfl, h1, h2, _⟩⟩ := h
  · exact ⟨none, 0, rfl, zT_ta _ _, Wk.leaf _ _ _ _ _ _ _ _, hb⟩
  · exact ⟨A, c, rfl, h1, h2, hb⟩
theorem rf_uni {w w' : World} {o : Option Tm} {e : Ending} (h : RfPost w o e w') : ∃ A c, e = .returned (.tuple #[tv (o.getD zT) A c, .bool o.isSome]) ∧ TA w' (o.getD zT) (tv (o.getD zT) A c) ∧ Below w.heap.size w w' := by
  obtain ⟨hb, ⟨rfl, rfl⟩ | ⟨t, A, c, rfl, rfl, h1⟩⟩ := h
  · exact ⟨none, 0, rfl, zT_ta _ _, hb⟩
  · exact ⟨A, c, rfl, h1, hb⟩
theorem ovr_below {F : Nat → Prop} {N : Nat} {w w' : World} (h : Ovr F w w') (hN : N ≤ w.heap.size) (hF : ∀ b, F b → N ≤ b) : Below N w w' := h.1.to_below hN (fun j hj hj2 => by have := hF j hj2; omega)
set_option maxRecDepth 100000 in
set_option maxHeartbeats 16000000 in
theorem walk (p : Tm) (bs : List Bnd) (n : Int) (vp : Value) (A : Option Addr) (c : Nat) (w : World) (hp : TA w p vp) (hbs : BcAt w A c bs) (hnw : (Lit.int .i64 n).wf = true) : Calls Try.prog 4 #[vp, .slice A bs.length c, .int .i64 n] w fun e w' => e = .returned (.bool true) ∧ Below w.heap.size w w' := by
  have hp0 := hp
  obtain ⟨k0, n0, s, l, Ap, cp, hpe, rfl, okp, hlp⟩ := hp.open_
  obtain ⟨W2, hW2⟩ : ∃ W2, w.alloc (.cells #[.int .i64 k0, .int .i64 n0, .string s, .slice Ap l.length cp] 24) = W2 := ⟨_, rfl⟩
  have hb2 : Below w.heap.size w W2 := by rw [← hW2]; exact ballocs (Below.refl _ _) _
  have hgp : Blk W2 w.heap.size 24 #[.int .i64 k0, .int .i64 n0, .string s, .slice Ap l.length cp] := by rw [← hW2]; exact Blk.new _ _ _
  have HP := Lib.hid (hp0.later hb2)
  have HB2 := Lib.hid hb2; have HGP := Lib.hid hgp; have HW2 := Lib.hid hW2
  have HBS := Lib.hid (hbs.later hb2)
  have HPE := Lib.hid hpe
  have HNWF := Lib.hid hnw
  have hlm : bs.length ≤ maxLen := Nat.le_trans hbs.2.1 hbs.2.2
  clear hp hp0 okp hlp hb2 hgp hW2 hbs hnw
  obtain ⟨p0, p1, p2, p3, _, _, _, _⟩ := HGP.out.four
  go_enter Try.func4, Try.ntmps4
  go_wp2_with fail
  rw [HW2.out]
  have hz2 : W2.heap.size = w.heap.size + 1 := by rw [← HW2.out]; simp
  have hrow := lit_rowF (vs := [_]) (.cons (show TAt W2 (· < W2.heap.size) p _ from HP.out) .nil) (fun b h => h) (by simp [maxLen]) #[.int .i64 k0, .int .i64 n0, .string s, .slice Ap l.length cp] rfl
  obtain ⟨W4, hW4⟩ : ∃ W4, W2.alloc (.cells #[.int .i64 k0, .int .i64 n0, .string s, .slice Ap l.length cp] 24) = W4 := ⟨_, rfl⟩
  have hb4 : Below W2.heap.size W2 W4 := by rw [← hW4]; exact ballocs (Below.refl _ _) _
  have HLA := Lib.hid (large_any [p] bs (some ⟨W2.heap.size, 0, none⟩) A 1 c W4 (by rw [← hW4]; exact hrow.mono (fun b hb => by rw [World.size_alloc]; omega)) (HBS.out.later hb4).1 (by simp [maxLen]) hlm)
  simp only [List.length_cons, List.length_nil, Nat.zero_add, Nat.reduceAdd] at HLA
  rw [hz2] at HLA
  rw [hW4]
  clear hrow hW4 p0 p1 p2 p3 hz2
  refine HLA.out.mono ?_
  rintro e w5 ⟨⟨r, rfl, hr⟩, hb5⟩
  have hb35 : Below W2.heap.size W2 w5 := bnext hb4 hb5
  have HB5 := Lib.hid (bnext HB2.out hb35)
  have HP5 := Lib.hid (HP.out.later hb35)
  have HBS5 := Lib.hid (HBS.out.later hb35)
  have HGP5 := Lib.hid (HGP.out.below hb35 HGP.out.lt)
  have HR := Lib.hid hr
  clear hb4 hb5 hb35 HLA hr
  cases r with
  | true =>
    go_wp2_with fail
    go_ret
    exact ⟨ret1_b rfl, HB5.out⟩
  | false =>
    obtain ⟨hnp0, hnb0, hbl⟩ := HR.out rfl
    have hnp : nodes p ≤ 300 := hnp0 p (by simp)
    have hnp1 : nodes p ≤ 1048576 := by omega
    have HNP := Lib.hid hnp
    have HNP1 := Lib.hid hnp1
    have HNB := Lib.hid hnb0
    have hbl2 : bs.length ≤ 65536 := by omega
    clear HR hnp0 hnp hnp1 hnb0
    obtain ⟨p0, p1, p2, p3, _, _, _, _⟩ := HGP5.out.four
    go_wp2_with fail
    refine (copyTerm_any p HNP1.out _ _ HP5.out).mono ?_
    rintro e w6 ⟨v6, rfl, ht6, hb6⟩
    obtain ⟨A3, c3, rfl, _⟩ := ht6.inv
    have hpv : tv p A3 c3 = .agg #[.int .i64 k0, .int .i64 n0, .string s, .slice A3 l.length c3] := by rw [HPE.out]; rfl
    rw [hpv] at ht6 ⊢
    have HB6 := Lib.hid (bnext HB5.out hb6)
    have HGP6 := Lib.hid (HGP5.out.below hb6 HGP5.out.lt)
    have HT6 := Lib.hid (show TA w6 p _ from ht6.mono fun b hb => hb.2)
    have HP6 := Lib.hid (HP5.out.later hb6)
    have HBS6 := Lib.hid (HBS5.out.later hb6)
    clear hb6 ht6 hpv p0 p1 p2 p3
    go_wp2_with fail
    refine (copied_any bs A c w6 HBS6.out.1 hbl2 (fun q hq => by have := HNB.out q hq; omega)).mono ?_
    rintro e w7 ⟨A7, c7, rfl, hrow7, hb7⟩
    obtain ⟨W8, hW8⟩ : ∃ W8, w7.alloc (.cells #[.int .i64 k0, .int .i64 n0, .string s, .slice A3 l.length c3] 24) = W8 := ⟨_, rfl⟩
    have hb8 : Below w7.heap.size w7 W8 := by rw [← hW8]; exact ballocs (Below.refl _ _) _
    have hb68 := bnext hb7 hb8
    have HB8 := Lib.hid (bnext HB6.out hb68)
    have HGP8 := Lib.hid (HGP6.out.below hb68 HGP6.out.lt)
    have HGX8 := Lib.hid (show Blk W8 w7.heap.size 24 #[.int .i64 k0, .int .i64 n0, .string s, .slice A3 l.length c3] from by rw [← hW8]; exact Blk.new _ _ _)
    have HX8 := Lib.hid (HT6.out.later hb68)
    have HP8 := Lib.hid (HP6.out.later hb68)
    have HBS8 := Lib.hid (HBS6.out.later hb68)
    have HC8 := Lib.hid (hrow7.bc.2.later hb8)
    have HW8 := Lib.hid hW8
    clear hb7 hrow7 hb8 hb68 hW8
    go_wp2_with fail
    rw [HW8.out]
    obtain ⟨x0, x1, x2, x3, _, _, _, _⟩ := HGX8.out.four
    go_wp2_with fail
    obtain ⟨T, hT⟩ : ∃ T, (filledF p bs).getD zT = T := ⟨_, rfl⟩
    obtain ⟨r, hr⟩ : ∃ r, (filledF p bs).isSome = r := ⟨_, rfl⟩
    obtain ⟨U, hU⟩ : ∃ U, (findF bs n).getD zT = U := ⟨_, rfl⟩
    obtain ⟨q, hq⟩ : ∃ q, (findF bs n).isSome = q := ⟨_, rfl⟩
    refine ((pfill_any p bs _ A7 c7 W8 HX8.out HC8.out.1 hlm (by have := HNP.out; omega) (fun q hq => by have := HNB.out q hq; omega)).mono fun e w' h => opt_uni h).mono ?_
    rw [hT, hr]
    rintro e w9 ⟨At, ct, rfl, ht9, hk9, hb9⟩
    unfold tv at ht9 hk9 ⊢
    obtain ⟨W9, hW9⟩ : ∃ W9, w9.alloc (.cells #[.int .i64 T.k, .int .i64 T.n, .string T.s, .slice At T.l.length ct] 24) = W9 := ⟨_, rfl⟩
    have hbb9 : Below w9.heap.size w9 W9 := by rw [← hW9]; exact ballocs (Below.refl _ _) _
    have HB9 := Lib.hid (show Below W8.heap.size W8 W9 from bnext hb9 hbb9)
    have HGT9 := Lib.hid (show Blk W9 w9.heap.size 24 #[.int .i64 T.k, .int .i64 T.n, .string T.s, .slice At T.l.length ct] from by rw [← hW9]; exact Blk.new _ _ _)
    have HT9 := Lib.hid (show TAt W9 (Fr W8 w9) T _ from ht9.keep fun p hp => hbb9.cell hp.2)
    have HK9 := Lib.hid (hk9.later hbb9)
    have HZ9 := Lib.hid hbb9.size
    have HGP9 := Lib.hid (HGP8.out.below HB9.out HGP8.out.lt)
    have HZ89 := Lib.hid hb9.size
    clear ht9 hk9 hb9 hbb9 x0 x1 x2 x3
    obtain ⟨p0, p1, p2, p3, _, _, _, _⟩ := HGP9.out.four
    subst hW9
    go_wp2_with fail
    refine ((rFill_any p bs _ A c _ (HP8.out.later HB9.out) (HBS8.out.later HB9.out).1 hbl2 (by have := HNP.out; omega) (fun q hq => by have := HNB.out q hq; omega)).mono fun e w' h => rf_uni h).mono ?_
    rw [hT, hr]
    rintro e w10 ⟨Au, cu, rfl, hu10, hb10⟩
    unfold tv at hu10 ⊢
    obtain ⟨W10, hW10⟩ : ∃ W10, w10.alloc (.cells #[.int .i64 T.k, .int .i64 T.n, .string T.s, .slice Au T.l.length cu] 24) = W10 := ⟨_, rfl⟩
    have hbb10 : Below w10.heap.size w10 W10 := by rw [← hW10]; exact ballocs (Below.refl _ _) _
    have hn10 := bnext hb10 hbb10
    have HB10 := Lib.hid (bnext HB9.out hn10)
    have HGU10 := Lib.hid (show Blk W10 w10.heap.size 24 #[.int .i64 T.k, .int .i64 T.n, .string T.s, .slice Au T.l.length cu] from by rw [← hW10]; exact Blk.new _ _ _)
    have HU10 := Lib.hid (TA.later hu10 hbb10)
    have HGT10 := Lib.hid (HGT9.out.below hn10 HGT9.out.lt)
    have HN10 := Lib.hid hn10
    clear hu10 hb10 hbb10 p0 p1 p2 p3 hn10
    subst hW10
    go_wp2_with fail
    refine ((pfind_any bs n A7 c7 _ (HC8.out.later HB10.out).1 hlm (fun q hq => by have := HNB.out q hq; omega) HNWF.out).mono fun e w' h => opt_uni h).mono ?_
    rw [hU, hq]
    rintro e w11 ⟨Av, cv, rfl, hv11, hk11, hb11⟩
    unfold tv at hv11 hk11 ⊢
    obtain ⟨W11, hW11⟩ : ∃ W11, w11.alloc (.cells #[.int .i64 U.k, .int .i64 U.n, .string U.s, .slice Av U.l.length cv] 24) = W11 := ⟨_, rfl⟩
    have hbb11 : Below w11.heap.size w11 W11 := by rw [← hW11]; exact ballocs (Below.refl _ _) _
    have hn11 := bnext hb11 hbb11
    have HB11 := Lib.hid (bnext HB10.out hn11)
    have HGV11 := Lib.hid (show Blk W11 w11.heap.size 24 #[.int .i64 U.k, .int .i64 U.n, .string U.s, .slice Av U.l.length cv] from by rw [← hW11]; exact Blk.new _ _ _)
    have HV11 := Lib.hid (show TA W11 U _ from TA.later (w := w11) (hv11.mono fun b hb => hb.2) hbb11)
    have HK11 := Lib.hid (hk11.later hbb11)
    have HN11 := Lib.hid (bnext HN10.out hn11)
    have HGT11 := Lib.hid (HGT10.out.below hn11 HGT10.out.lt)
    have HGU11 := Lib.hid (HGU10.out.below hn11 HGU10.out.lt)
    have HU11 := Lib.hid (HU10.out.later hn11)
    have HZ11 := Lib.hid hb11.size
    clear hv11 hk11 hb11 hbb11 hn11
    subst hW11
    go_wp2_with fail
    refine ((rFind_any bs n A c _ (HBS8.out.later HB11.out).1 hbl2 (fun q hq => by have := HNB.out q hq; omega)).mono fun e w' h => rf_uni h).mono ?_
    rw [hU, hq]
    rintro e w12 ⟨Ax, cx, rfl, hx12, hb12⟩
    unfold tv at hx12 ⊢
    obtain ⟨W12, hW12⟩ : ∃ W12, w12.alloc (.cells #[.int .i64 U.k, .int .i64 U.n, .string U.s, .slice Ax U.l.length cx] 24) = W12 := ⟨_, rfl⟩
    have hbb12 : Below w12.heap.size w12 W12 := by rw [← hW12]; exact ballocs (Below.refl _ _) _
    have hn12 := bnext hb12 hbb12
    have HB12 := Lib.hid (bnext HB11.out hn12)
    have HGY12 := Lib.hid (show Blk W12 w12.heap.size 24 #[.int .i64 U.k, .int .i64 U.n, .string U.s, .slice Ax U.l.length cx] from by rw [← hW12]; exact Blk.new _ _ _)
    have HY12 := Lib.hid (TA.later hx12 hbb12)
    have HN12 := Lib.hid (bnext HN11.out hn12)
    have HM12 := Lib.hid hn12
    have HGT12 := Lib.hid (HGT11.out.below hn12 HGT11.out.lt)
    have HGU12 := Lib.hid (HGU11.out.below hn12 HGU11.out.lt)
    have HGV12 := Lib.hid (HGV11.out.below hn12 HGV11.out.lt)
    have HU12 := Lib.hid (HU11.out.later hn12)
    have HV12 := Lib.hid (HV11.out.later hn12)
    clear hx12 hb12 hbb12 hn12
    obtain ⟨t0, t1, t2, t3, _, _, _, _⟩ := HGT12.out.four
    obtain ⟨u0, u1, u2, u3, _, _, _, _⟩ := HGU12.out.four
    have hrr : (r != r) = false := by simp
    have hqq : (q != q) = false := by simp
    subst hW12
    go_wp2_with fail
    have HT12 := Lib.hid (show TAt _ (Fr W8 w9) T (.agg #[.int .i64 T.k, .int .i64 T.n, .string T.s, .slice At T.l.length ct]) from HT9.out.keep fun p hp => HN12.out.cell (Nat.lt_of_lt_of_le hp.2 (by simp)))
    refine (sameTerm_any T T _ _ _ (HT12.out.mono fun b hb => Nat.lt_of_lt_of_le hb.2 (Nat.le_trans (by simp) HN12.out.size)) HU12.out).mono ?_
    rw [eqT_iff.2 rfl]
    rintro e w13 ⟨rfl, hb13⟩
    have HB13 := Lib.hid (bnext HB12.out hb13)
    have HN13 := Lib.hid (bnext HN12.out hb13)
    have HM13 := Lib.hid (bnext HM12.out hb13)
    have HGT13 := Lib.hid (HGT12.out.below hb13 HGT12.out.lt)
    have HGV13 := Lib.hid (HGV12.out.below hb13 HGV12.out.lt)
    have HGY13 := Lib.hid (HGY12.out.below hb13 HGY12.out.lt)
    have HV13 := Lib.hid (HV12.out.later hb13)
    have HY13 := Lib.hid (HY12.out.later hb13)
    clear hb13 t0 t1 t2 t3 u0 u1 u2 u3
    obtain ⟨v0, v1, v2, v3, _, _, _, _⟩ := HGV13.out.four
    obtain ⟨y0, y1, y2, y3, _, _, _, _⟩ := HGY13.out.four
    go_wp2_with fail
    refine (sameTerm_any U U _ _ _ HV13.out HY13.out).mono ?_
    rw [eqT_iff.2 rfl]
    rintro e w14 ⟨rfl, hb14⟩
    have HB14 := Lib.hid (bnext HB13.out hb14)
    have HN14 := Lib.hid (bnext HN13.out hb14)
    have HM14 := Lib.hid (bnext HM13.out hb14)
    have HGT14 := Lib.hid (HGT13.out.below hb14 HGT13.out.lt)
    have HGV14 := Lib.hid (HGV13.out.below hb14 HGV13.out.lt)
    clear hb14 v0 v1 v2 v3 y0 y1 y2 y3
    obtain ⟨t0, t1, t2, t3, _, _, _, _⟩ := HGT14.out.four
    have HS1 := Lib.hid HZ89.out
    have hz1 := HN14.out.size
    have hz2 := HM14.out.size
    simp only [World.size_alloc] at hz1 hz2
    have HK14 := Lib.hid (HK9.out.later HN14.out)
    have HL14 := Lib.hid (HK11.out.later HM14.out)
    go_wp2_with fail
    refine (overT_any LV _ _ _ HK14.out (fun b hb => by have := hb.2; omega)).mono ?_
    rintro e w15 ⟨rfl, ho15⟩
    have hgv15 := HGV14.out.keep ho15.1 (fun hb => by have h1 := hb.2; have h2 := HZ11.out; have h3 := HN10.out.size; simp only [World.size_alloc] at h2 h3; omega)
    have HGV15 := Lib.hid hgv15
    have HB15 := Lib.hid (show Below W8.heap.size W8 w15 from HB14.out.trans (ovr_below ho15 HB14.out.size (fun b hb => hb.1)))
    have HL15 := Lib.hid (HL14.out.keep ho15.1 (fun b hb hb2 => by have h1 := hb2.2; have h2 := hb.1; have h3 := HN10.out.size; simp only [World.size_alloc] at h2 h3; omega))
    have hz15 := ho15.1.size
    clear ho15 t0 t1 t2 t3
    obtain ⟨v0, v1, v2, v3, _, _, _, _⟩ := hgv15.four
    go_wp2_with fail
    refine (overT_any LV _ _ _ HL15.out (fun b hb => by have := hb.2; omega)).mono ?_
    rintro e w16 ⟨rfl, ho16⟩
    have HB16 := Lib.hid (show Below W8.heap.size W8 w16 from HB15.out.trans (ovr_below ho16 HB15.out.size (fun b hb => by have h2 := hb.1; have h3 := HB10.out.size; omega)))
    clear ho16 v0 v1 v2 v3 hgv15
    obtain ⟨p0, p1, p2, p3, _, _, _, _⟩ := (HGP8.out.below HB16.out HGP8.out.lt).four
    obtain ⟨x0, x1, x2, x3, _, _, _, _⟩ := (HGX8.out.below HB16.out HGX8.out.lt).four
    go_wp2_with fail
    refine (sameTerm_any p p _ _ _ (HX8.out.later HB16.out) (HP8.out.later HB16.out)).mono ?_
    rw [eqT_iff.2 rfl]
    rintro e w17 ⟨rfl, hb17⟩
    have HB17 := Lib.hid (bnext HB16.out hb17)
    clear hb17 p0 p1 p2 p3 x0 x1 x2 x3
    go_wp2_with fail
    refine (sameBinds_any bs bs A7 A c7 c _ (HC8.out.later HB17.out).1 (HBS8.out.later HB17.out).1 hlm hlm).mono ?_
    rw [eqBs_iff.2 rfl]
    rintro e w18 ⟨rfl, hb18⟩
    have HB18 := Lib.hid (bnext HB17.out hb18)
    clear hb18
    go_wp2_with fail
    refine (awake_any _).mono ?_
    rintro e w19 ⟨rfl, hb19⟩
    have HB19 := Lib.hid (bnext HB8.out (bnext HB18.out hb19))
    clear hb19
    go_wp2_with fail
    go_ret
    exact ⟨ret1_b rfl, HB19.out⟩
theorem contract {H : Type} {enc : TypeId × Value → H} (W : World) {base : Nat} {r r' r2 : Reach} {b b' b2 : Nat} {hd hd' hd2 : Bool} {v0 v1 v2 : Value} {d0 d1 d2 : DataW H} {p0 p1 p2 : List MemPlace}
    (o0 : Value.okWide Try.prog W r b 24 v0) (h0 : DataW.Trod enc Try.prog W base (fun _ => true) hd 24 v0 d0 p0) (o1 : Value.okWide Try.prog W r' b' 25 v1) (h1 : DataW.Trod enc Try.prog W base (fun _ => true) hd' 25 v1 d1 p1) (o2 : Value.okWide Try.prog W r2 b2 3 v2) (h2 : DataW.Trod enc Try.prog W base (fun _ => true) hd2 3 v2 d2 p2) {Q R : Prop} (_ : Q) (_ : R) :
    Calls Try.prog 4 #[v0, v1, v2] W fun e w' => e = .returned (.bool true) ∧ Below W.heap.size W w' := by
  obtain ⟨a, ha⟩ := open_t o0 h0
  obtain ⟨A, c, l, rfl, hl⟩ := open_bs o1 h1
  obtain ⟨x, rfl, _, _, hx⟩ := open_int Try.underlying3 o2 h2
  exact walk a l x v0 A c W ha hl hx

theorem own : ownKnob Try.prog.godebug = none := by kernel_rfl
theorem laidOut : laidOutB Try.prog = true := by kernel_rfl
theorem readable : ∀ t ∈ Try.f4.params.toList, Try.prog.readableRec t = true ∧ t < Try.prog.types.size := by
  rw [show Try.f4.params = #[24, 25, 3] from Try.params4]
  intro t h
  simp only [List.mem_cons, List.not_mem_nil, or_false] at h
  rcases h with rfl | rfl | rfl
  · exact ⟨by kernel_rfl, of_decide_eq_true (by kernel_rfl)⟩
  · exact ⟨by kernel_rfl, of_decide_eq_true (by kernel_rfl)⟩
  · exact ⟨by kernel_rfl, of_decide_eq_true (by kernel_rfl)⟩
set_option maxRecDepth 100000 in
theorem lifted (os : Os) (started : os.Started) (H : Type) (enc : TypeId × Value → H) :
    ReturnsInHanded {} Try.checked os 4 .any (Rows.patternFillsSpec.pre6 enc Try.prog Try.f4 Rows.patternFillsRow.domain false) (Rows.patternFillsSpec.post enc Try.prog Try.f4 false true false false) := by
  refine K.law_lift (C := Try.checked) (b := 4) own started (by kernel_rfl) Try.func4
    (ChangeSpec.witness6 (enc := enc) (C := Try.checked) false ⟨#[], #[.agg #[.int .i64 0, .int .i64 0, .string ⟨#[]⟩, .slice none 0 0], .slice none 0 0, .int .i64 0], []⟩ 8 (by kernel_rfl) (by kernel_rfl) (by kernel_rfl) (by kernel_rfl)) laidOut readable rfl rfl Try.underlying4 ?_ ?_
  · intro ds hds
    rw [show Try.f4.params = #[24, 25, 3] from Try.params4] at hds
    match ds, hds with
    | [d0, d1, d2], _ => rfl
  · intro W base args ds p hval hA hlt hsz
    rw [show Try.checked.prog = Try.prog from rfl] at hval hA hsz
    rw [show Try.f4.params = #[24, 25, 3] from Try.params4] at hA hval hsz
    obtain ⟨v0, vs0, d0, ds0, p0, q0, hargs, rfl, rfl, h0, r0⟩ := trodAll_cons hA
    obtain ⟨v1, vs1, d1, ds1, p1, q1, rfl, rfl, rfl, h1, r1⟩ := trodAll_cons r0
    obtain ⟨v2, vs2, d2, ds2, p2, q2, rfl, rfl, rfl, h2, r2⟩ := trodAll_cons r1
    obtain ⟨rfl, rfl, rfl⟩ := trodAll_nil r2
    obtain rfl : args = #[v0, v1, v2] := by cases args; simp_all
    exact contract W (hval 0 24 v0 rfl rfl) h0 (hval 1 25 v1 rfl rfl) h1 (hval 2 3 v2 rfl rfl) h2 (fun x hx => hlt x hx) hsz

theorem over : Rows.patternFillsRow.holds Try.pinned (OpenSpec.ofChange Rows.patternFillsSpec) :=
  OpenClaim.holds_of_wide 4 Try.f4 rfl rfl rfl rfl rfl rfl rfl ⟨rfl, rfl, rfl, rfl, rfl⟩ rfl rfl rfl rfl rfl (by kernel_rfl) Try.func4 (by kernel_rfl)
    (of_decide_eq_true (by kernel_rfl)) (by unfold Func.isWrapper; rw [if_neg (of_decide_eq_false (by kernel_rfl))]; exact ⟨rfl, rfl⟩)
    (fun os started H enc _ => lifted os started H enc)

/-- THE STATEMENT -/
theorem proved : Rows.PatternFillsSaid := over
#print axioms proved
end Go.Proofs.Ytlaplakaifmpeaa.PatternFills
