/- The law PatternBack returns true: what a pattern matches is the pattern filled. -/
import Derived.Test.YtlaplakaifmpeaaPatAwake
import Derived.Test.YtlaplakaifmpeaaPatLarge
import Derived.Test.YtlaplakaifmpeaaPatBackP
import Derived.Test.YtlaplakaifmpeaaOpenTm
namespace Go.Proofs.Ytlaplakaifmpeaa.PatternBack
open Go.RowKit K Pt
open Go.ChangeShapes Go.WideShapes Go.ChangeAt
set_option linter.unusedVariables false
set_option linter.unusedSimpArgs false

set_option maxRecDepth 100000 in
set_option maxHeartbeats 16000000 in
theorem walk (p t : Tm) (vp vt : Value) (w : World) (hp : TA w p vp) (ht : TA w t vt) : Calls Try.prog 6 #[vp, vt] w fun e w' => e = .returned (.bool true) ∧ Below w.heap.size w w' := by
  have hp0 := hp
  have ht0 := ht
  obtain ⟨pk, pn, ps, pl, Ap, cp, hpe, rfl, okp, hlp⟩ := hp.open_
  obtain ⟨tk, tn, ts, tl, At, ct, hte, rfl, okt, hlt⟩ := ht.open_
  obtain ⟨W2, hW2⟩ : ∃ W2, (w.alloc (.cells #[.int .i64 pk, .int .i64 pn, .string ps, .slice Ap pl.length cp] 24)).alloc (.cells #[.int .i64 tk, .int .i64 tn, .string ts, .slice At tl.length ct] 24) = W2 := ⟨_, rfl⟩
  have hb2 : Below w.heap.size w W2 := by rw [← hW2]; exact ballocs (ballocs (Below.refl _ _) _) _
  have hgp : Blk W2 w.heap.size 24 #[.int .i64 pk, .int .i64 pn, .string ps, .slice Ap pl.length cp] := by rw [← hW2]; exact (Blk.new _ _ _).alloc _
  have hgt : Blk W2 (w.heap.size + 1) 24 #[.int .i64 tk, .int .i64 tn, .string ts, .slice At tl.length ct] := by
    rw [← hW2]
    have := Blk.new (w.alloc (.cells #[.int .i64 pk, .int .i64 pn, .string ps, .slice Ap pl.length cp] 24)) 24 #[.int .i64 tk, .int .i64 tn, .string ts, .slice At tl.length ct]
    simp only [World.size_alloc] at this
    exact this
  have HP := Lib.hid (hp0.later hb2)
  have HT := Lib.hid (ht0.later hb2)
  have HB2 := Lib.hid hb2
  have HGP := Lib.hid hgp
  have HGT := Lib.hid hgt
  have HW2 := Lib.hid hW2
  clear hp ht hp0 ht0 okp okt hlp hlt hb2 hgp hgt hW2 hpe hte
  have HAW := Lib.hid (awake_any W2)
  go_enter Try.func6, Try.ntmps6
  go_wp2_with fail
  rw [HW2.out]
  refine HAW.out.mono ?_
  rintro e w3 ⟨rfl, hb3⟩
  have HB3 := Lib.hid (bnext HB2.out hb3)
  have HP3 := Lib.hid (HP.out.later hb3)
  have HT3 := Lib.hid (HT.out.later hb3)
  have HGP3 := Lib.hid (HGP.out.below hb3 HGP.out.lt)
  have HGT3 := Lib.hid (HGT.out.below hb3 HGT.out.lt)
  clear hb3 HAW
  obtain ⟨p0, p1, p2, p3, _, _, _, _⟩ := HGP3.out.four
  obtain ⟨t0, t1, t2, t3, _, _, _, _⟩ := HGT3.out.four
  go_wp2_with fail
  have hrow := lit2 (show TAt w3 (· < w3.heap.size) p _ from HP3.out) (show TAt w3 (· < w3.heap.size) t _ from HT3.out) (fun b h => h)
  have HLA := Lib.hid (large_any [p, t] [] (some ⟨w3.heap.size, 0, none⟩) none 2 0 _ (hrow.mono (fun b hb => by rw [World.size_alloc]; omega)) (fun i q h => by simp at h) (by simp [maxLen]) (by simp [maxLen]))
  simp only [List.length_cons, List.length_nil, Nat.zero_add, Nat.reduceAdd] at HLA
  obtain ⟨W4, hW4⟩ : ∃ W4, w3.alloc (.cells #[.int .i64 pk, .int .i64 pn, .string ps, .slice Ap pl.length cp, .int .i64 tk, .int .i64 tn, .string ts, .slice At tl.length ct] 24) = W4 := ⟨_, rfl⟩
  have hb4 : Below w3.heap.size w3 W4 := by rw [← hW4]; exact ballocs (Below.refl _ _) _
  rw [hW4] at HLA ⊢
  clear hrow hW4 p0 p1 p2 p3 t0 t1 t2 t3
  refine HLA.out.mono ?_
  rintro e w5 ⟨⟨r, rfl, hr⟩, hb5⟩
  have hb35 : Below w3.heap.size w3 w5 := bnext hb4 hb5
  have HB5 := Lib.hid (bnext HB3.out hb35)
  have HP5 := Lib.hid (HP3.out.later hb35)
  have HT5 := Lib.hid (HT3.out.later hb35)
  have HGP5 := Lib.hid (HGP3.out.below hb35 HGP3.out.lt)
  have HGT5 := Lib.hid (HGT3.out.below hb35 HGT3.out.lt)
  have HR := Lib.hid hr
  clear hb4 hb5 hb35 HLA hr
  cases r with
  | true =>
    go_wp2_with fail
    go_ret
    exact ⟨ret1_b rfl, HB5.out⟩
  | false =>
    have hr := HR.out rfl
    have hnp : nodes p ≤ 300 := hr.1 p (by simp)
    have hnt : nodes t ≤ 300 := hr.1 t (by simp)
    have HNP := Lib.hid hnp
    have HNT := Lib.hid hnt
    clear HR hr hnp hnt
    obtain ⟨p0, p1, p2, p3, _, _, _, _⟩ := HGP5.out.four
    obtain ⟨t0, t1, t2, t3, _, _, _, _⟩ := HGT5.out.four
    go_wp2_with fail
    refine (pmatch_any p t _ _ w5 HP5.out HT5.out (by have := HNP.out; omega) (by have := HNT.out; omega)).mono ?_
    cases hm : moreP p t [] with
    | none =>
      clear hm
      rintro e w6 hm
      obtain ⟨hb6, rfl⟩ := hm.no
      have HB6 := Lib.hid (bnext HB5.out hb6)
      clear hb6 hm p0 p1 p2 p3 t0 t1 t2 t3
      go_wp2_with fail
      go_ret
      exact ⟨ret1_b rfl, HB6.out⟩
    | some L =>
      have HBK := Lib.hid (back hm HNT.out)
      clear hm
      rintro e w6 hm
      obtain ⟨hb6, Am, cm, rfl, hrow⟩ := hm.yes
      have HB6 := Lib.hid (bnext HB5.out hb6)
      have HP6 := Lib.hid (HP5.out.later hb6)
      have HT6 := Lib.hid (HT5.out.later hb6)
      have HGP6 := Lib.hid (HGP5.out.below hb6 HGP5.out.lt)
      have HGT6 := Lib.hid (HGT5.out.below hb6 HGT5.out.lt)
      have HBS6 := Lib.hid (row_bs hrow)
      have hll : L.length ≤ 100 := HBK.out.2.2.2.2.2.2.1
      have hlm : L.length ≤ maxLen := by unfold maxLen; omega
      have HLM := Lib.hid hlm
      clear hb6 hm hrow p0 p1 p2 p3 t0 t1 t2 t3 hlm
      obtain ⟨p0, p1, p2, p3, _, _, _, _⟩ := HGP6.out.four
      obtain ⟨t0, t1, t2, t3, _, _, _, _⟩ := HGT6.out.four
      go_wp2_with fail
      have HMO := Lib.hid (more_any p t L _ _ Am cm w6 HP6.out HT6.out HBS6.out HLM.out (by have := HNP.out; omega) (by have := HNT.out; omega) (fun q hq => by have := HBK.out.2.2.2.2.1 q hq; omega))
      rw [HBK.out.1] at HMO
      refine HMO.out.mono ?_
      rintro e w7 hm
      obtain ⟨hb7, Am2, cm2, rfl, hrow⟩ := hm.yes
      have HB7 := Lib.hid (bnext HB6.out hb7)
      have HP7 := Lib.hid (HP6.out.later hb7)
      have HT7 := Lib.hid (HT6.out.later hb7)
      have HGP7 := Lib.hid (HGP6.out.below hb7 HGP6.out.lt)
      have HGT7 := Lib.hid (HGT6.out.below hb7 HGT6.out.lt)
      have HBS7 := Lib.hid (HBS6.out.later hb7)
      have HAG7 := Lib.hid (row_bs hrow)
      clear hb7 hm hrow p0 p1 p2 p3 t0 t1 t2 t3 HMO
      obtain ⟨p0, p1, p2, p3, _, _, _, _⟩ := HGP7.out.four
      obtain ⟨t0, t1, t2, t3, _, _, _, _⟩ := HGT7.out.four
      go_wp2_with fail
      refine (vars_yes p _ _ HP7.out (by have := HNP.out; omega) HBK.out.2.2.2.2.2.1).mono ?_
      rw [← HBK.out.2.1, List.length_map]
      rintro e w8 ⟨A1, c1, rfl, hvr, hb8⟩
      have HB8 := Lib.hid (bnext HB7.out hb8)
      have HP8 := Lib.hid (HP7.out.later hb8)
      have HT8 := Lib.hid (HT7.out.later hb8)
      have HGP8 := Lib.hid (HGP7.out.below hb8 HGP7.out.lt)
      have HGT8 := Lib.hid (HGT7.out.below hb8 HGT7.out.lt)
      have HBS8 := Lib.hid (HBS7.out.later hb8)
      have HAG8 := Lib.hid (HAG7.out.later hb8)
      have HVR := Lib.hid hvr
      clear hb8 p0 p1 p2 p3 t0 t1 t2 t3 hvr
      go_wp2_with fail
      refine (sameBinds_any L L Am2 Am cm2 cm _ HAG8.out HBS8.out HLM.out HLM.out).mono ?_
      rw [eqBs_iff.2 rfl]
      rintro e w9 ⟨rfl, hb9⟩
      have HB9 := Lib.hid (bnext HB8.out hb9)
      have HB89 := Lib.hid hb9
      clear hb9
      go_wp2_with fail
      go_loopw [11] (fun x wr => ∃ i : Nat, i ≤ L.length ∧ x = .int .i64 (i : Int) ∧ Below w9.heap.size w9 wr) (fun x _ => L.length - (intOf x).toNat)
      case atStart => exact ⟨0, Nat.zero_le _, rfl, Below.refl _ _⟩
      case round =>
        obtain ⟨i, hi, rfl, hb⟩ := hrel
        have HB := Lib.hid (bnext HB9.out hb)
        have HBR := Lib.hid hb
        have HBSr := Lib.hid ((HBS8.out.later HB89.out).later hb)
        clear hb
        by_cases hlt : i < L.length
        · obtain ⟨⟨qn, qt⟩, hq⟩ : ∃ q, L[i]? = some q := ⟨_, List.getElem?_eq_getElem hlt⟩
          have hqm := List.mem_of_getElem? hq
          have HQF := Lib.hid (HBK.out.2.2.1 _ hqm)
          have HQR := Lib.hid (HBK.out.2.2.2.2.2.2.2 _ hqm)
          have hqr := HQR.out
          obtain ⟨b, o, A2, c2, rfl, hb1, d, d0, d1, d2, d3, hta⟩ := HBSr.out.at_ hq
          obtain ⟨gv, capv, hve, _, _, _, hgv, hcv⟩ := ownsRow_at HVR.out hlt
          injection hve with hv1 hv2 hv3
          subst hv1 hv3
          have hcell8 := hcv i (.int .i64 qn) (by simp [hq])
          have hcell := (HBR.out.cell (p := ⟨gv, i, none⟩) (by have := HB89.out.size; show gv < w9.heap.size; omega)).trans ((HB89.out.cell (p := ⟨gv, i, none⟩) hgv).trans hcell8)
          simp only at d d0 d1 d2 d3 hta hqr
          have HTA := Lib.hid (show TA wr qt _ from hta)
          have HFD := Lib.hid (pfind_any L qn _ cm wr HBSr.out HLM.out (fun q hq => by have := HBK.out.2.2.2.2.1 q hq; omega) (by simp [Lit.wf, IntKind.min, IntKind.max, IntKind.bits, IntKind.signed]; omega))
          have hqf := HQF.out
          simp only at hqf
          rw [hqf] at HFD
          have hi0 : (0 : Int) ≤ (i : Int) := by omega
          have hil : (i : Int) < (L.length : Int) := by omega
          have HD := Lib.hid d; have HD0 := Lib.hid d0; have HD1 := Lib.hid d1; have HD2 := Lib.hid d2; have HD3 := Lib.hid d3; have HCE := Lib.hid hcell
          have HB1 := Lib.hid (show b < wr.heap.size from hb1)
          have HGV := Lib.hid (show gv < wr.heap.size from by have := HB89.out.size; have := HBR.out.size; omega)
          clear hq hqm hta hcv hcell8 hqf hgv HQF
          go_wp2_with fail
          refine HFD.out.mono ?_
          rintro e w10 ⟨hb10, (⟨ho, _⟩ | ⟨u, Au, cu, ho, rfl, hu, _, hnu⟩)⟩
          · cases ho
          injection ho with ho
          subst ho
          obtain ⟨W10, hW10⟩ : ∃ W10, w10.alloc (.cells #[.int .i64 qt.k, .int .i64 qt.n, .string qt.s, .slice Au qt.l.length cu] 24) = W10 := ⟨_, rfl⟩
          have hb11 : Below w10.heap.size w10 W10 := by rw [← hW10]; exact ballocs (Below.refl _ _) _
          have hgu : Blk W10 w10.heap.size 24 #[.int .i64 qt.k, .int .i64 qt.n, .string qt.s, .slice Au qt.l.length cu] := by rw [← hW10]; exact Blk.new _ _ _
          have hbr : Below wr.heap.size wr W10 := bnext hb10 hb11
          have HU := Lib.hid (show TA W10 qt (tv qt Au cu) from TA.later (w := w10) (hu.mono fun b hb => hb.2) hb11)
          have HBRN := Lib.hid (bnext HBR.out hbr)
          have HTA10 := Lib.hid (HTA.out.later hbr)
          unfold tv at HU ⊢
          have HW10 := Lib.hid hW10
          have HGU := Lib.hid hgu
          have HBR2 := Lib.hid hbr
          clear hb10 hu hnu hb11 hgu hbr hW10 d d0 d1 d2 d3 hcell HFD
          go_wp2_with fail
          rw [HW10.out]
          have e0 := (HBR2.out.cell (p := ⟨b, o + i * 5, none⟩) HB1.out).trans HD.out
          have e1 := (HBR2.out.cell (p := ⟨b, o + i * 5 + 1, none⟩) HB1.out).trans HD0.out
          have e2 := (HBR2.out.cell (p := ⟨b, o + i * 5 + 2, none⟩) HB1.out).trans HD1.out
          have e3 := (HBR2.out.cell (p := ⟨b, o + i * 5 + 3, none⟩) HB1.out).trans HD2.out
          have e4 := (HBR2.out.cell (p := ⟨b, o + i * 5 + 4, none⟩) HB1.out).trans HD3.out
          have e5 := (HBR2.out.cell (p := ⟨gv, i, none⟩) HGV.out).trans HCE.out
          obtain ⟨u0, u1, u2, u3, _, _, _, _⟩ := HGU.out.four
          go_still_tail 21, (by kernel_rfl)
          have HSM := Lib.hid (sameTerm_any qt qt _ _ W10.drew HU.out.drew HTA10.out.drew)
          rw [eqT_iff.2 rfl] at HSM
          change wpList _ _ _ _ _ W10.drew
          clear e0 e1 e2 e3 e4 e5 u0 u1 u2 u3
          go_wp2_with fail
          refine HSM.out.mono ?_
          rintro e w11 ⟨rfl, hb12⟩
          have HBN := Lib.hid (bnext HBRN.out (bundrew hb12))
          clear hb12
          go_wp2_with fail
          go_roundw
          case rel => exact ⟨i + 1, by omega, by go_num, HBN.out⟩
          case measure => simp [intOf]; omega
        · obtain rfl : i = L.length := by omega
          have HPr := Lib.hid (HP8.out.later (HB89.out.trans (HBR.out.mono HB89.out.size)))
          have HTr := Lib.hid (HT8.out.later (HB89.out.trans (HBR.out.mono HB89.out.size)))
          have HGPr := Lib.hid (HGP8.out.below (HB89.out.trans (HBR.out.mono HB89.out.size)) HGP8.out.lt)
          have HGTr := Lib.hid (HGT8.out.below (HB89.out.trans (HBR.out.mono HB89.out.size)) HGT8.out.lt)
          obtain ⟨p0, p1, p2, p3, _, _, _, _⟩ := HGPr.out.four
          go_wp2_with fail
          have HFI := Lib.hid (pfill_any p L _ Am cm wr HPr.out HBSr.out HLM.out (by have := HNP.out; omega) (fun q hq => by have := HBK.out.2.2.2.2.1 q hq; omega))
          refine HFI.out.mono ?_
          rintro e w10 ⟨hb10, (⟨ho, rfl⟩ | ⟨u, Au, cu, ho, rfl, hu, _, hnu⟩)⟩
          · have HBF := Lib.hid (ballocs (bnext HB.out hb10) (.cells #[.int .i64 0, .int .i64 0, .string ⟨#[]⟩, .slice none 0 0] 24))
            clear hb10 ho p0 p1 p2 p3 HFI
            go_wp2_with fail
            go_ret
            exact ⟨ret1_b rfl, HBF.out⟩
          · have HUT := Lib.hid (HBK.out.2.2.2.1 u ho)
            obtain rfl := HUT.out
            obtain ⟨W10, hW10⟩ : ∃ W10, w10.alloc (.cells #[.int .i64 u.k, .int .i64 u.n, .string u.s, .slice Au u.l.length cu] 24) = W10 := ⟨_, rfl⟩
            have hb11 : Below w10.heap.size w10 W10 := by rw [← hW10]; exact ballocs (Below.refl _ _) _
            have hgu : Blk W10 w10.heap.size 24 #[.int .i64 u.k, .int .i64 u.n, .string u.s, .slice Au u.l.length cu] := by rw [← hW10]; exact Blk.new _ _ _
            have hbr : Below wr.heap.size wr W10 := bnext hb10 hb11
            have HU := Lib.hid (show TA W10 u (tv u Au cu) from TA.later (w := w10) (hu.mono fun b hb => hb.2) hb11)
            have HBF := Lib.hid (bnext HB.out hbr)
            have HT10 := Lib.hid (HTr.out.later hbr)
            obtain ⟨u0, u1, u2, u3, _, _, _, _⟩ := hgu.four
            obtain ⟨t0, t1, t2, t3, _, _, _, _⟩ := (HGTr.out.below hbr HGTr.out.lt).four
            unfold tv at HU ⊢
            subst hW10
            clear hb10 hu hnu hb11 hgu hbr ho p0 p1 p2 p3 HFI
            go_wp2_with fail
            refine (sameTerm_any u u _ _ _ HU.out HT10.out).mono ?_
            rw [eqT_iff.2 rfl]
            rintro e w11 ⟨rfl, hb12⟩
            have HBE := Lib.hid (bnext HBF.out hb12)
            clear hb12 u0 u1 u2 u3 t0 t1 t2 t3
            go_wp2_with fail
            go_ret
            exact ⟨ret1_b rfl, HBE.out⟩
theorem contract {H : Type} {enc : TypeId × Value → H} (W : World) {base : Nat} {r r' : Reach} {b b' : Nat} {hd hd' : Bool} {v0 v1 : Value} {d0 d1 : DataW H} {p0 p1 : List MemPlace}
    (o0 : Value.okWide Try.prog W r b 24 v0) (h0 : DataW.Trod enc Try.prog W base (fun _ => true) hd 24 v0 d0 p0) (o1 : Value.okWide Try.prog W r' b' 24 v1) (h1 : DataW.Trod enc Try.prog W base (fun _ => true) hd' 24 v1 d1 p1) {Q R : Prop} (_ : Q) (_ : R) :
    Calls Try.prog 6 #[v0, v1] W fun e w' => e = .returned (.bool true) ∧ Below W.heap.size W w' := by
  obtain ⟨a, ha⟩ := open_t o0 h0
  obtain ⟨b, hb⟩ := open_t o1 h1
  exact walk a b v0 v1 W ha hb


theorem own : ownKnob Try.prog.godebug = none := by kernel_rfl
theorem laidOut : laidOutB Try.prog = true := by kernel_rfl
theorem readable : ∀ t ∈ Try.f6.params.toList, Try.prog.readableRec t = true ∧ t < Try.prog.types.size := by
  rw [show Try.f6.params = #[24, 24] from Try.params6]
  intro t h
  simp only [List.mem_cons, List.not_mem_nil, or_false] at h
  rcases h with rfl | rfl
  · exact ⟨by kernel_rfl, of_decide_eq_true (by kernel_rfl)⟩
  · exact ⟨by kernel_rfl, of_decide_eq_true (by kernel_rfl)⟩
set_option maxRecDepth 100000 in
theorem lifted (os : Os) (started : os.Started) (H : Type) (enc : TypeId × Value → H) :
    ReturnsInHanded {} Try.checked os 6 .any (Rows.patternBackSpec.pre6 enc Try.prog Try.f6 Rows.patternBackRow.domain false) (Rows.patternBackSpec.post enc Try.prog Try.f6 false true false false) := by
  refine K.law_lift (C := Try.checked) (b := 4) own started (by kernel_rfl) Try.func6
    (ChangeSpec.witness6 (enc := enc) (C := Try.checked) false ⟨#[], #[.agg #[.int .i64 0, .int .i64 0, .string ⟨#[]⟩, .slice none 0 0], .agg #[.int .i64 0, .int .i64 0, .string ⟨#[]⟩, .slice none 0 0]], []⟩ 8 (by kernel_rfl) (by kernel_rfl) (by kernel_rfl) (by kernel_rfl)) laidOut readable rfl rfl Try.underlying4 ?_ ?_
  · intro ds hds
    rw [show Try.f6.params = #[24, 24] from Try.params6] at hds
    match ds, hds with
    | [d0, d1], _ => rfl
  · intro W base args ds p hval hA hlt hsz
    rw [show Try.checked.prog = Try.prog from rfl] at hval hA hsz
    rw [show Try.f6.params = #[24, 24] from Try.params6] at hA hval hsz
    obtain ⟨v0, vs0, d0, ds0, p0, q0, hargs, rfl, rfl, h0, r0⟩ := trodAll_cons hA
    obtain ⟨v1, vs1, d1, ds1, p1, q1, rfl, rfl, rfl, h1, r1⟩ := trodAll_cons r0
    obtain ⟨rfl, rfl, rfl⟩ := trodAll_nil r1
    obtain rfl : args = #[v0, v1] := by cases args; simp_all
    exact contract W (hval 0 24 v0 rfl rfl) h0 (hval 1 24 v1 rfl rfl) h1 (fun x hx => hlt x hx) hsz

theorem over : Rows.patternBackRow.holds Try.pinned (OpenSpec.ofChange Rows.patternBackSpec) :=
  OpenClaim.holds_of_wide 6 Try.f6 rfl rfl rfl rfl rfl rfl rfl ⟨rfl, rfl, rfl, rfl, rfl⟩ rfl rfl rfl rfl rfl (by kernel_rfl) Try.func6 (by kernel_rfl)
    (of_decide_eq_true (by kernel_rfl)) (by unfold Func.isWrapper; rw [if_neg (of_decide_eq_false (by kernel_rfl))]; exact ⟨rfl, rfl⟩)
    (fun os started H enc _ => lifted os started H enc)

/-- THE STATEMENT -/
theorem proved : Rows.PatternBackSaid := over
#print axioms proved
end Go.Proofs.Ytlaplakaifmpeaa.PatternBack
