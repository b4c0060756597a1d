/- The law PatternBound returns true: a pattern that is bound matches just itself. -/
import Derived.Test.YtlaplakaifmpeaaPatAwake
import Derived.Test.YtlaplakaifmpeaaPatLarge
import Derived.Test.YtlaplakaifmpeaaPatPlain
import Derived.Test.YtlaplakaifmpeaaOpenTm
namespace Go.Proofs.Ytlaplakaifmpeaa.PatternBound
open Go.RowKit K Pt
open Go.ChangeShapes Go.WideShapes Go.ChangeAt
set_option linter.unusedVariables false
set_option linter.unusedSimpArgs false

set_option maxRecDepth 100000 in
set_option maxHeartbeats 16000000 in
theorem walk (p t : Tm) (vp vt : Value) (w : World) (hp : TA w p vp) (ht : TA w t vt) : Calls Try.prog 7 #[vp, vt] w fun e w' => e = .returned (.bool true) ∧ Below w.heap.size w w' := by
  have hp0 := hp
  have ht0 := ht
  obtain ⟨pk, pn, ps, pl, Ap, cp, hpe, rfl, okp, hlp⟩ := hp.open_
  obtain ⟨tk, tn, ts, tl, At, ct, hte, rfl, okt, hlt⟩ := ht.open_
  obtain ⟨W2, hW2⟩ : ∃ W2, (w.alloc (.cells #[.int .i64 pk, .int .i64 pn, .string ps, .slice Ap pl.length cp] 24)).alloc (.cells #[.int .i64 tk, .int .i64 tn, .string ts, .slice At tl.length ct] 24) = W2 := ⟨_, rfl⟩
  have hb2 : Below w.heap.size w W2 := by rw [← hW2]; exact ballocs (ballocs (Below.refl _ _) _) _
  have hgp : Blk W2 w.heap.size 24 #[.int .i64 pk, .int .i64 pn, .string ps, .slice Ap pl.length cp] := by rw [← hW2]; exact (Blk.new _ _ _).alloc _
  have hgt : Blk W2 (w.heap.size + 1) 24 #[.int .i64 tk, .int .i64 tn, .string ts, .slice At tl.length ct] := by
    rw [← hW2]
    have := Blk.new (w.alloc (.cells #[.int .i64 pk, .int .i64 pn, .string ps, .slice Ap pl.length cp] 24)) 24 #[.int .i64 tk, .int .i64 tn, .string ts, .slice At tl.length ct]
    simp only [World.size_alloc] at this
    exact this
  have HP := Lib.hid (hp0.later hb2)
  have HT := Lib.hid (ht0.later hb2)
  have HB2 := Lib.hid hb2
  have HGP := Lib.hid hgp
  have HGT := Lib.hid hgt
  have HW2 := Lib.hid hW2
  clear hp ht hp0 ht0 okp okt hlp hlt hb2 hgp hgt hW2 hpe hte
  have HAW := Lib.hid (awake_any W2)
  go_enter Try.func7, Try.ntmps7
  go_wp2_with fail
  rw [HW2.out]
  refine HAW.out.mono ?_
  rintro e w3 ⟨rfl, hb3⟩
  have HB3 := Lib.hid (bnext HB2.out hb3)
  have HP3 := Lib.hid (HP.out.later hb3)
  have HT3 := Lib.hid (HT.out.later hb3)
  have HGP3 := Lib.hid (HGP.out.below hb3 HGP.out.lt)
  have HGT3 := Lib.hid (HGT.out.below hb3 HGT.out.lt)
  clear hb3 HAW
  obtain ⟨p0, p1, p2, p3, _, _, _, _⟩ := HGP3.out.four
  obtain ⟨t0, t1, t2, t3, _, _, _, _⟩ := HGT3.out.four
  go_wp2_with fail
  have hrow := lit2 (show TAt w3 (· < w3.heap.size) p _ from HP3.out) (show TAt w3 (· < w3.heap.size) t _ from HT3.out) (fun b h => h)
  have HLA := Lib.hid (large_any [p, t] [] (some ⟨w3.heap.size, 0, none⟩) none 2 0 _ (hrow.mono (fun b hb => by rw [World.size_alloc]; omega)) (fun i q h => by simp at h) (by simp [maxLen]) (by simp [maxLen]))
  simp only [List.length_cons, List.length_nil, Nat.zero_add, Nat.reduceAdd] at HLA
  obtain ⟨W4, hW4⟩ : ∃ W4, w3.alloc (.cells #[.int .i64 pk, .int .i64 pn, .string ps, .slice Ap pl.length cp, .int .i64 tk, .int .i64 tn, .string ts, .slice At tl.length ct] 24) = W4 := ⟨_, rfl⟩
  have hb4 : Below w3.heap.size w3 W4 := by rw [← hW4]; exact ballocs (Below.refl _ _) _
  rw [hW4] at HLA ⊢
  clear hrow hW4 p0 p1 p2 p3 t0 t1 t2 t3
  refine HLA.out.mono ?_
  rintro e w5 ⟨⟨r, rfl, hr⟩, hb5⟩
  have hb35 : Below w3.heap.size w3 w5 := bnext hb4 hb5
  have HB5 := Lib.hid (bnext HB3.out hb35)
  have HP5 := Lib.hid (HP3.out.later hb35)
  have HT5 := Lib.hid (HT3.out.later hb35)
  have HGP5 := Lib.hid (HGP3.out.below hb35 HGP3.out.lt)
  have HGT5 := Lib.hid (HGT3.out.below hb35 HGT3.out.lt)
  have HR := Lib.hid hr
  clear hb4 hb5 hb35 HLA hr
  cases r with
  | true =>
    go_wp2_with fail
    go_ret
    exact ⟨ret1_b rfl, HB5.out⟩
  | false =>
    have hr := HR.out rfl
    have hnp : nodes p ≤ 300 := hr.1 p (by simp)
    have hnt : nodes t ≤ 300 := hr.1 t (by simp)
    have HNP := Lib.hid hnp
    have HNT := Lib.hid hnt
    clear HR hr hnp hnt
    obtain ⟨p0, p1, p2, p3, _, _, _, _⟩ := HGP5.out.four
    obtain ⟨t0, t1, t2, t3, _, _, _, _⟩ := HGT5.out.four
    have HBD := Lib.hid (bound_any p _ w5 HP5.out (by have := HNP.out; omega))
    cases hbd : boundT p with
    | false =>
      rw [hbd] at HBD
      clear hbd
      go_wp2_with fail
      refine HBD.out.mono ?_
      rintro e w6 ⟨rfl, hb6⟩
      have HB6 := Lib.hid (bnext HB5.out hb6)
      clear hb6
      go_wp2_with fail
      go_ret
      exact ⟨ret1_b rfl, HB6.out⟩
    | true =>
      have HBE := Lib.hid hbd
      rw [hbd] at HBD
      clear hbd
      go_wp2_with fail
      refine HBD.out.mono ?_
      rintro e w6 ⟨rfl, hb6⟩
      have HB6 := Lib.hid (bnext HB5.out hb6)
      have HP6 := Lib.hid (HP5.out.later hb6)
      have HT6 := Lib.hid (HT5.out.later hb6)
      have HGP6 := Lib.hid (HGP5.out.below hb6 HGP5.out.lt)
      have HGT6 := Lib.hid (HGT5.out.below hb6 HGT5.out.lt)
      clear hb6 p0 p1 p2 p3 t0 t1 t2 t3
      obtain ⟨p0, p1, p2, p3, _, _, _, _⟩ := HGP6.out.four
      go_wp2_with fail
      refine (pmatch_any p p _ _ w6 HP6.out HP6.out (by have := HNP.out; omega) (by have := HNP.out; omega)).mono ?_
      rw [more_fixed HBE.out, if_pos (eqT_iff.2 rfl)]
      rintro e w7 hm
      obtain ⟨hb7, Am, cm, rfl, hrow⟩ := hm.yes
      have HB7 := Lib.hid (bnext HB6.out hb7)
      have HP7 := Lib.hid (HP6.out.later hb7)
      have HT7 := Lib.hid (HT6.out.later hb7)
      have HGP7 := Lib.hid (HGP6.out.below hb7 HGP6.out.lt)
      have HGT7 := Lib.hid (HGT6.out.below hb7 HGT6.out.lt)
      clear hb7 hm hrow p0 p1 p2 p3
      simp only [List.length_nil]
      obtain ⟨p0, p1, p2, p3, _, _, _, _⟩ := HGP7.out.four
      obtain ⟨t0, t1, t2, t3, _, _, _, _⟩ := HGT7.out.four
      go_wp2_with fail
      have HM2 := Lib.hid (pmatch_any p t _ _ w7 HP7.out HT7.out (by have := HNP.out; omega) (by have := HNT.out; omega))
      rw [more_fixed HBE.out] at HM2
      obtain ⟨q, hq⟩ : ∃ q, eqT p t = q := ⟨_, rfl⟩
      rw [hq] at HM2
      refine HM2.out.mono ?_
      rintro e w8 hm
      have hm2 : ∃ Am2 cm2, e = .returned (.tuple #[.slice Am2 0 cm2, .bool q]) ∧ Below w7.heap.size w7 w8 := by
        cases q with
        | true =>
          rw [if_pos rfl] at hm
          obtain ⟨hb8, Am2, cm2, he, _⟩ := hm.yes
          exact ⟨Am2, cm2, he, hb8⟩
        | false =>
          rw [if_neg (by simp)] at hm
          obtain ⟨hb8, he⟩ := hm.no
          exact ⟨none, 0, he, hb8⟩
      obtain ⟨Am2, cm2, rfl, hb8⟩ := hm2
      have HB8 := Lib.hid (bnext HB7.out hb8)
      have HP8 := Lib.hid (HP7.out.later hb8)
      have HT8 := Lib.hid (HT7.out.later hb8)
      have HGP8 := Lib.hid (HGP7.out.below hb8 HGP7.out.lt)
      have HGT8 := Lib.hid (HGT7.out.below hb8 HGT7.out.lt)
      have HQ := Lib.hid hq
      clear hb8 hm p0 p1 p2 p3 t0 t1 t2 t3 hq HM2
      obtain ⟨p0, p1, p2, p3, _, _, _, _⟩ := HGP8.out.four
      go_wp2_with fail
      have HFI := Lib.hid (pfill_any p [] _ none 0 w8 HP8.out (fun i q h => by simp at h) (by simp [maxLen]) (by have := HNP.out; omega) (fun q h => by simp at h))
      rw [filled_fixed HBE.out] at HFI
      refine HFI.out.mono ?_
      rintro e w9 ⟨hb9, (⟨ho, _⟩ | ⟨u, Au, cu, ho, rfl, hu, _, hnu⟩)⟩
      · cases ho
      injection ho with ho
      subst ho
      have HB9 := Lib.hid (bnext HB8.out hb9)
      have HP9 := Lib.hid (HP8.out.later hb9)
      have HT9 := Lib.hid (HT8.out.later hb9)
      have HGP9 := Lib.hid (HGP8.out.below hb9 HGP8.out.lt)
      have HGT9 := Lib.hid (HGT8.out.below hb9 HGT8.out.lt)
      have HU := Lib.hid (show TA w9 p (tv p Au cu) from hu.mono fun b hb => hb.2)
      unfold tv at HU ⊢
      obtain ⟨W9, hW9⟩ : ∃ W9, w9.alloc (.cells #[.int .i64 p.k, .int .i64 p.n, .string p.s, .slice Au p.l.length cu] 24) = W9 := ⟨_, rfl⟩
      have hb10 : Below w9.heap.size w9 W9 := by rw [← hW9]; exact ballocs (Below.refl _ _) _
      have hgu : Blk W9 w9.heap.size 24 #[.int .i64 p.k, .int .i64 p.n, .string p.s, .slice Au p.l.length cu] := by rw [← hW9]; exact Blk.new _ _ _
      have HB10 := Lib.hid (bnext HB9.out hb10)
      have HP10 := Lib.hid (HP9.out.later hb10)
      have HT10 := Lib.hid (HT9.out.later hb10)
      have HU10 := Lib.hid (HU.out.later hb10)
      have hgp10 := HGP9.out.below hb10 HGP9.out.lt
      have hgt10 := HGT9.out.below hb10 HGT9.out.lt
      have HGP10 := Lib.hid hgp10; have HGT10 := Lib.hid hgt10; have HGU10 := Lib.hid hgu
      clear p0 p1 p2 p3
      obtain ⟨p0, p1, p2, p3, _, _, _, _⟩ := hgp10.four
      obtain ⟨t0, t1, t2, t3, _, _, _, _⟩ := hgt10.four
      subst hW9
      clear hb9 hu hnu hb10 hgu hgp10 hgt10 HFI
      go_wp2_with fail
      have hqq : (q != q) = false := by simp
      refine (sameTerm_any p t _ _ _ HP10.out HT10.out).mono ?_
      rw [HQ.out]
      rintro e w11 ⟨rfl, hb11⟩
      have HB11 := Lib.hid (bnext HB10.out hb11)
      have HP11 := Lib.hid (HP10.out.later hb11)
      have HU11 := Lib.hid (HU10.out.later hb11)
      have HGP11 := Lib.hid (HGP10.out.below hb11 HGP10.out.lt)
      have HGU11 := Lib.hid (HGU10.out.below hb11 HGU10.out.lt)
      clear hb11 p0 p1 p2 p3 t0 t1 t2 t3
      obtain ⟨p0, p1, p2, p3, _, _, _, _⟩ := HGP11.out.four
      obtain ⟨u0, u1, u2, u3, _, _, _, _⟩ := HGU11.out.four
      go_wp2_with fail
      refine (sameTerm_any p p _ _ _ HU11.out HP11.out).mono ?_
      rw [eqT_iff.2 rfl]
      rintro e w12 ⟨rfl, hb12⟩
      have HB12 := Lib.hid (bnext HB11.out hb12)
      have HP12 := Lib.hid (HP11.out.later hb12)
      have HGP12 := Lib.hid (HGP11.out.below hb12 HGP11.out.lt)
      clear hb12 p0 p1 p2 p3 u0 u1 u2 u3
      obtain ⟨p0, p1, p2, p3, _, _, _, _⟩ := HGP12.out.four
      go_wp2_with fail
      refine (vars_yes p _ _ HP12.out (by have := HNP.out; omega) (bound_fixed HBE.out).1).mono ?_
      rw [fixed_vars (bound_fixed HBE.out).2]
      rintro e w13 ⟨A1, c1, rfl, _, hb13⟩
      simp only [List.length_nil]
      have HB13 := Lib.hid (bnext HB12.out hb13)
      clear hb13 p0 p1 p2 p3
      go_wp2_with fail
      go_ret
      exact ⟨ret1_b rfl, HB13.out⟩
theorem contract {H : Type} {enc : TypeId × Value → H} (W : World) {base : Nat} {r r' : Reach} {b b' : Nat} {hd hd' : Bool} {v0 v1 : Value} {d0 d1 : DataW H} {p0 p1 : List MemPlace}
    (o0 : Value.okWide Try.prog W r b 24 v0) (h0 : DataW.Trod enc Try.prog W base (fun _ => true) hd 24 v0 d0 p0) (o1 : Value.okWide Try.prog W r' b' 24 v1) (h1 : DataW.Trod enc Try.prog W base (fun _ => true) hd' 24 v1 d1 p1) {Q R : Prop} (_ : Q) (_ : R) :
    Calls Try.prog 7 #[v0, v1] W fun e w' => e = .returned (.bool true) ∧ Below W.heap.size W w' := by
  obtain ⟨a, ha⟩ := open_t o0 h0
  obtain ⟨b, hb⟩ := open_t o1 h1
  exact walk a b v0 v1 W ha hb


theorem own : ownKnob Try.prog.godebug = none := by kernel_rfl
theorem laidOut : laidOutB Try.prog = true := by kernel_rfl
theorem readable : ∀ t ∈ Try.f7.params.toList, Try.prog.readableRec t = true ∧ t < Try.prog.types.size := by
  rw [show Try.f7.params = #[24, 24] from Try.params7]
  intro t h
  simp only [List.mem_cons, List.not_mem_nil, or_false] at h
  rcases h with rfl | rfl
  · exact ⟨by kernel_rfl, of_decide_eq_true (by kernel_rfl)⟩
  · exact ⟨by kernel_rfl, of_decide_eq_true (by kernel_rfl)⟩
set_option maxRecDepth 100000 in
theorem lifted (os : Os) (started : os.Started) (H : Type) (enc : TypeId × Value → H) :
    ReturnsInHanded {} Try.checked os 7 .any (Rows.patternBoundSpec.pre6 enc Try.prog Try.f7 Rows.patternBoundRow.domain false) (Rows.patternBoundSpec.post enc Try.prog Try.f7 false true false false) := by
  refine K.law_lift (C := Try.checked) (b := 4) own started (by kernel_rfl) Try.func7
    (ChangeSpec.witness6 (enc := enc) (C := Try.checked) false ⟨#[], #[.agg #[.int .i64 0, .int .i64 0, .string ⟨#[]⟩, .slice none 0 0], .agg #[.int .i64 0, .int .i64 0, .string ⟨#[]⟩, .slice none 0 0]], []⟩ 8 (by kernel_rfl) (by kernel_rfl) (by kernel_rfl) (by kernel_rfl)) laidOut readable rfl rfl Try.underlying4 ?_ ?_
  · intro ds hds
    rw [show Try.f7.params = #[24, 24] from Try.params7] at hds
    match ds, hds with
    | [d0, d1], _ => rfl
  · intro W base args ds p hval hA hlt hsz
    rw [show Try.checked.prog = Try.prog from rfl] at hval hA hsz
    rw [show Try.f7.params = #[24, 24] from Try.params7] at hA hval hsz
    obtain ⟨v0, vs0, d0, ds0, p0, q0, hargs, rfl, rfl, h0, r0⟩ := trodAll_cons hA
    obtain ⟨v1, vs1, d1, ds1, p1, q1, rfl, rfl, rfl, h1, r1⟩ := trodAll_cons r0
    obtain ⟨rfl, rfl, rfl⟩ := trodAll_nil r1
    obtain rfl : args = #[v0, v1] := by cases args; simp_all
    exact contract W (hval 0 24 v0 rfl rfl) h0 (hval 1 24 v1 rfl rfl) h1 (fun x hx => hlt x hx) hsz

theorem over : Rows.patternBoundRow.holds Try.pinned (OpenSpec.ofChange Rows.patternBoundSpec) :=
  OpenClaim.holds_of_wide 7 Try.f7 rfl rfl rfl rfl rfl rfl rfl ⟨rfl, rfl, rfl, rfl, rfl⟩ rfl rfl rfl rfl rfl (by kernel_rfl) Try.func7 (by kernel_rfl)
    (of_decide_eq_true (by kernel_rfl)) (by unfold Func.isWrapper; rw [if_neg (of_decide_eq_false (by kernel_rfl))]; exact ⟨rfl, rfl⟩)
    (fun os started H enc _ => lifted os started H enc)

/-- THE STATEMENT -/
theorem proved : Rows.PatternBoundSaid := over
#print axioms proved
end Go.Proofs.Ytlaplakaifmpeaa.PatternBound
