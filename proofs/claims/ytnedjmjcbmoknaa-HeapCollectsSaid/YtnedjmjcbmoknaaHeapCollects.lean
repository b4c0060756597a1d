/- Texts one behind the other (printed by wip/bin/cat.py). -/
import Derived.Test.YtnedjmjcbmoknaaHpRow
import Derived.Test.YtnedjmjcbmoknaaHeapKnown
import Derived.Deep.DeepCutAuto
import Derived.Deep.Light
import Derived.Test.YtnedjmjcbmoknaaLawKit
/- HeapCollects' walk. -/
namespace Go.Proofs.Ytnedjmjcbmoknaa.Hp
open Go.RowKit K At Wd Fl
set_option linter.unusedVariables false
set_option linter.unusedSimpArgs false

theorem S1.start {W wr : World} {F : Nat → Prop} {gh g : Nat} (hH : Hp wr F gh g [] 100000 []) (hF : ∀ k, F k → W.heap.size ≤ k) (hb : Below W.heap.size W wr) (l : List Tm) : S1 W wr gh g l 0 none 0 0 none 0 :=
  ⟨F, [], [], [], [], ⟨hH, hF, hb, Fo.nil _ _ _, Ro.nil _ _ _, Fo.nil _ _ _, Ro.nil _ _ _⟩, Pn.nil, ⟨by simp, by simp [bytesOf], by simp [hW]⟩, rfl, Nat.le_refl _⟩
set_option maxRecDepth 100000 in
set_option maxHeartbeats 4000000 in
theorem collects_any (w : World) (A1 A2 A3 : Option Addr) (l : List Tm) (c1 n2 c2 n3 c3 : Nat) (hl : TsA w A1 l) (hll : l.length ≤ maxLen) (h2 : IRows w A2 n2) (hn2 : n2 ≤ maxLen) (h3 : IRow w A3 n3) (hn3 : n3 ≤ maxLen) :
    Calls Try.prog 4 #[.slice A1 l.length c1, .slice A2 n2 c2, .slice A3 n3 c3] w fun e w' => e = .returned (.bool true) ∧ Below w.heap.size w w' := by
  have HK := Lib.hid (HeapKnown.known_any w)
  have HN := Lib.hid (fun w => At.new_any w)
  have HHN := Lib.hid (fun g w FT hT => new_any g [] 100000 w FT hT (by decide) (by decide))
  have HL := Lib.hid hl; have H2 := Lib.hid h2; have H3 := Lib.hid h3
  obtain ⟨ln, hln⟩ : ∃ z : Int, (l.length : Int) = z := ⟨_, rfl⟩
  obtain ⟨tn, htn⟩ : ∃ z : Int, (n2 : Int) = z := ⟨_, rfl⟩
  obtain ⟨rn, hrn⟩ : ∃ z : Int, (n3 : Int) = z := ⟨_, rfl⟩
  have HLN := Lib.hid hln; have HTN := Lib.hid htn; have HRN := Lib.hid hrn
  clear hl h2 h3
  have hb1 : 0 ≤ ln := by omega
  have hb2 : 0 ≤ tn := by omega
  have hb3 : 0 ≤ rn := by omega
  go_enter Try.func4, Try.ntmps4
  go_wp2_with fail
  refine HK.out.mono ?_
  rintro e w1 ⟨rfl, hb1⟩
  have HB1 := Lib.hid hb1
  clear hb1
  go_wp2_with fail
  refine (HN.out _).mono ?_
  rintro e w2 ⟨g, rfl, hT2, hb2⟩
  have HB2 := Lib.hid (fbelow HB1.out hb2); have HT2 := Lib.hid hT2
  have HHN2 := Lib.hid (HHN.out g w2 _ hT2)
  clear hb2 hT2
  go_wp2_with fail
  refine HHN2.out.mono ?_
  rintro e w3 ⟨gh, rfl, hH3, hb3⟩
  have HB3 := Lib.hid (fbelow HB2.out hb3); have HH3 := Lib.hid hH3
  clear hb3 hH3 HHN2
  by_cases a1 : 8 < ln
  · go_wp2_with fail
    go_ret
    exact ⟨rfl, HB3.out⟩
  have HLA := Lib.hid (largeAll_any l 40 A1 c1 w3 (by decide) ((TsAt.under HL.out HB3.out (fun b hb => hb)).mono (fun b hb => Nat.lt_of_lt_of_le hb HB3.out.size)) hll)
  go_wp2_with fail
  refine HLA.out.mono ?_
  rintro e w4 ⟨rfl, hb4⟩
  have HB4 := Lib.hid (fbelow HB3.out hb4); have HH4 := Lib.hid (HH3.out.below hb4)
  clear hb4
  by_cases a2 : largeB l 40 = true
  · rw [a2]
    go_wp2_with fail
    go_ret
    exact ⟨rfl, HB4.out⟩
  have a2f : largeB l 40 = false := by simpa using a2
  rw [a2f]
  have HA2 := Lib.hid a2f
  clear a2 a2f
  by_cases a3 : 20 < tn
  · go_wp2_with fail
    go_ret
    exact ⟨rfl, HB4.out⟩
  by_cases a4 : 20 < rn
  · go_wp2_with fail
    go_ret
    exact ⟨rfl, HB4.out⟩
  have HS0 := Lib.hid (show S1 w w4 gh g l 0 none 0 0 none 0 from S1.start HH4.out (fun k hk => by have := HB1.out.size; have := HB2.out.size; rcases hk with h | h <;> omega) HB4.out l)
  have HA40 := Lib.hid (show nodesL l ≤ 40 by
    have h := HA2.out
    unfold largeB at h
    simp only [Bool.or_eq_false_iff, decide_eq_false_iff_not] at h
    omega)
  have HL8 := Lib.hid (show l.length ≤ 8 by omega)
  go_wp2_with fail
  go_loopw [12, 10, 11] (fun vi va vt wr => ∃ i na ca ct Aa At, i ≤ l.length ∧ vi = .int .i64 (i : Int) ∧ va = .slice Aa na ca ∧ vt = .slice At na ct ∧ S1 w wr gh g l i Aa na ca At ct) (fun vi _ _ _ => l.length - (intOf vi).toNat)
  case atStart => exact ⟨0, 0, 0, 0, none, none, Nat.zero_le _, rfl, rfl, rfl, HS0.out⟩
  case round =>
    obtain ⟨i, na, ca, ct, Aa, At, hi, rfl, rfl, rfl, hs⟩ := hrel
    have HS := Lib.hid hs
    clear hs
    have hi0 : (0 : Int) ≤ (i : Int) := by omega
    by_cases hlt : i < l.length
    · obtain ⟨t, ht⟩ : ∃ t, l[i]? = some t := ⟨_, List.getElem?_eq_getElem hlt⟩
      obtain ⟨b, o, A', c', rfl, hb, hq, HTA, HPUT⟩ := HS.out.put (c := 0) HA40.out ht HL.out
      obtain ⟨q0, q1, q2, q3⟩ := hq _ HS.out.bl
      have HQ := Lib.hid hq; have HTT := Lib.hid ht
      clear hq ht
      have hlt2 : (i : Int) < ln := by omega
      have HN40 := Lib.hid (show nodes t ≤ 40 by have := nodesL_take_succ HTT.out; have := nodesL_take_le l (i + 1); have := HA40.out; omega)
      go_wp2_with fail
      refine HPUT.out.mono ?_
      rintro e w5 ⟨y, ee, rfl, hee, hp5⟩
      have HP5 := Lib.hid hp5; have HEE := Lib.hid hee
      obtain ⟨r0, r1, r2, r3⟩ := HQ.out _ hp5.bl
      have HCK := Lib.hid (check_any t _ w5 ((HTA.out _ hp5.bl).mono (fun b hb => Nat.lt_of_lt_of_le hb hp5.bl.size)) (by have := HN40.out; omega))
      clear hee hp5 q0 q1 q2 q3 HPUT
      go_wp2_with fail
      refine HCK.out.mono ?_
      rintro e w6 ⟨rfl, hb6⟩
      have HP6 := Lib.hid (HP5.out.below hb6)
      clear hb6 r0 r1 r2 r3 HCK HP5
      by_cases hc : chk t = 0
      · obtain rfl := HEE.out hc
        have HC := Lib.hid hc
        rw [hc]
        clear hc HEE
        obtain ⟨r0, r1, r2, r3⟩ := HQ.out _ HP6.out.bl
        have HGOT := Lib.hid (HP6.out.got HC.out HN40.out ((HTA.out _ HP6.out.bl).mono (fun b hb => Nat.lt_of_lt_of_le hb HP6.out.bl.size)))
        go_wp2_with fail
        refine HGOT.out.mono ?_
        rintro e w7 ⟨rfl, hb7⟩
        have HP7 := Lib.hid (HP6.out.below hb7)
        clear hb7 HGOT HP6 r0 r1 r2 r3
        obtain ⟨B1, d1, w8, run8, hb8, hnext⟩ := HP7.out.push HC.out (by have := HL8.out; omega) HN40.out
        obtain ⟨B2, d2, w9, run9, hs9⟩ := hnext t.k t.n t.s A' t.l.length c' (HTA.out _ hb8)
        obtain ⟨r0, r1, r2, r3⟩ := HQ.out _ hb8
        have RUN8 := Lib.hid run8; have RUN9 := Lib.hid run9; have HS9 := Lib.hid hs9
        clear hnext hb8 run8 run9 hs9
        go_wp2_with (first
          | (at_builtin; refine wpList_append_run (o := ⟨some 98, _, _, _, _, _⟩) (.tmp 95) (.tmp 97) 39 _ _ _ RUN8.out rfl rfl (by simp [Act.eval, Act.put]) (by simp [Act.eval, Act.put]) ?_)
          | (at_builtin; refine wpList_append_run (o := ⟨some 105, _, _, _, _, _⟩) (.tmp 99) (.tmp 104) 26 _ _ _ RUN9.out rfl rfl (by simp [Act.eval, Act.put]) (by simp [Act.eval, Act.put]) ?_)
          | fail)
        exact ⟨⟨i + 1, na + 1, d1, d2, B1, B2, hlt, rfl, rfl, rfl, HS9.out⟩, by simp [intOf]; omega⟩
      · go_wp2_with fail
        exact ⟨⟨i + 1, na, ca, ct, Aa, At, hlt, rfl, rfl, rfl, HP6.out.skip⟩, by simp [intOf]; omega⟩
    · have HS2 := Lib.hid (HS.out.next HA40.out)
      have hna8 : na ≤ 8 := Nat.le_trans HS.out.small (Nat.le_trans hi HL8.out)
      have hlt3 : ¬ (i : Int) < (l.length : Int) := by omega
      clear HS hlt hi a1 HL8 HA40 HA2 HS0 hln
      go_wp2_with fail
      go_loopw [15, 10, 11] (fun vi va vt wr => ∃ i na ca ct Aa At, i ≤ n2 ∧ vi = .int .i64 (i : Int) ∧ va = .slice Aa na ca ∧ vt = .slice At na ct ∧ na ≤ 8 + i ∧ S3 w wr gh g (80 + 5 * i) Aa na ca At ct none 0 0 none 0) (fun vi _ _ _ => n2 - (intOf vi).toNat)
      case atStart => exact ⟨0, na, ca, ct, Aa, At, Nat.zero_le _, rfl, rfl, rfl, hna8, HS2.out⟩
      case round =>
        clear HS2 hna8
        obtain ⟨i, na, ca, ct, Aa, At, hi, rfl, rfl, rfl, hna, hs⟩ := hrel
        have HS := Lib.hid hs
        clear hs
        have hi0 : (0 : Int) ≤ (i : Int) := by omega
        have hna0 : (0 : Int) ≤ (na : Int) := by omega
        by_cases hlt : i < n2 ∧ 0 < na
        · have hlt1 : (i : Int) < tn := by omega
          have hlt2 : (0 : Int) < (na : Int) := by omega
          obtain ⟨ad2, A5, n5, c5, e2, had2, hn5, hrow5, hcell5⟩ := H2.out i hlt.1
          have HC5 := Lib.hid hcell5; have HR5 := Lib.hid hrow5
          clear hcell5 hrow5
          subst e2
          have hcx := HC5.out _ HS.out.bl
          go_wp2_with fail
          go_loopw [18, 16, 17] (fun vk v1 v2 wr => ∃ k cw cs Aw As, k ≤ n5 ∧ k ≤ 4 ∧ vk = .int .i64 (k : Int) ∧ v1 = .slice Aw k cw ∧ v2 = .slice As k cs ∧ S3 w wr gh g (80 + 5 * i) Aa na ca At ct Aw k cw As cs) (fun vk _ _ _ => 4 - (intOf vk).toNat)
          case atStart => exact ⟨0, 0, 0, none, none, Nat.zero_le _, Nat.zero_le _, rfl, rfl, rfl, HS.out⟩
          case round =>
            obtain ⟨k, cw, cs, Aw, As, hk5, hk4, rfl, rfl, rfl, hs⟩ := hrel
            have HSk := Lib.hid hs
            clear hs
            have hk0 : (0 : Int) ≤ (k : Int) := by omega
            have hcx2 := HC5.out _ HSk.out.bl
            by_cases hltk : k < n5 ∧ k < 4
            · have hltk1 : (k : Int) < (n5 : Int) := by omega
              have hltk2 : (k : Int) < 4 := by omega
              obtain ⟨ad3, x, rfl, had3, hx, hcx3⟩ := HR5.out k hltk.1
              have hcx4 := hcx3 _ HSk.out.bl
              have HPK := Lib.hid (pick_any x (na : Int) hx (WalkArith.wf_i64 (by omega)) wr)
              obtain ⟨p, hp⟩ : ∃ p : Nat, pickN x (na : Int) = (p : Int) := ⟨(pickN x (na : Int)).toNat, by have := (pickN_range (x := x) (n := (na : Int)) (by omega)).1; omega⟩
              have hpn : p < na := by have := (pickN_range (x := x) (n := (na : Int)) (by omega)).2; omega
              rw [hp] at HPK
              have hp0 : (0 : Int) ≤ (p : Int) := by omega
              have hpn2 : (p : Int) < (na : Int) := by omega
              clear hp
              obtain ⟨ad6, u6', rfl, had6, hc6, B1, d1, w6, run6, b7, o7, A7, c7, k7, n7, s7, m7, rfl, hb7, q0, q1, q2, q3, B2, d2, w7, run7, hs7⟩ := HSk.out.pick hpn (by omega)
              have RUN6 := Lib.hid run6; have RUN7 := Lib.hid run7; have HS7 := Lib.hid hs7
              clear run6 run7 hs7
              go_wp2_with fail
              refine HPK.out.mono ?_
              rintro e w8 ⟨rfl, h8⟩
              obtain rfl : wr = w8 := h8
              go_wp2_with (first
                | (at_builtin; refine wpList_append_run (o := ⟨some 146, _, _, _, _, _⟩) (.tmp 140) (.tmp 145) 39 _ _ _ RUN6.out rfl rfl (by simp [Act.eval, Act.put]) (by simp [Act.eval, Act.put]) ?_)
                | (at_builtin; refine wpList_append_run (o := ⟨some 153, _, _, _, _, _⟩) (.tmp 147) (.tmp 152) 26 _ _ _ RUN7.out rfl rfl (by simp [Act.eval, Act.put]) (by simp [Act.eval, Act.put]) ?_)
                | fail)
              exact ⟨⟨k + 1, d1, d2, B1, B2, by omega, by omega, rfl, rfl, rfl, HS7.out⟩, by simp [intOf]; omega⟩
            · obtain ⟨bl, hla, htup⟩ := HSk.out.tuple hk4 (by omega)
              have HLA5 := Lib.hid hla; have HTUP := Lib.hid htup
              clear hla htup
              have hex : ¬ ((k : Int) < (n5 : Int)) ∨ ((k : Int) < (n5 : Int) ∧ ¬ (k : Int) < 4) := by omega
              rcases hex with hg1 | ⟨hg1, hg2⟩
              all_goals
                go_wp2_with fail
                refine HLA5.out.mono ?_
                rintro e w8 ⟨rfl, hb8⟩
                cases bl with
                | true =>
                  go_wp2_with fail
                  go_ret
                  exact ⟨rfl, fbelow HSk.out.bl hb8⟩
                | false =>
                  have HT8 := Lib.hid (HTUP.out rfl _ hb8)
                  clear hb8 HLA5 HTUP
                  go_wp2_with fail
                  refine HT8.out.mono ?_
                  rintro e w9 ⟨y, rfl, hs9⟩
                  obtain ⟨B1, d1, w10, run10, hnext⟩ := hs9.push (by omega) hk4
                  have RUN10 := Lib.hid run10; have HNX := Lib.hid hnext
                  clear hs9 run10 hnext
                  go_wp2_with (first
                    | (at_builtin; refine wpList_append_run (o := ⟨some 168, _, _, _, _, _⟩) (.tmp 165) (.tmp 167) 39 _ _ _ RUN10.out rfl rfl (by simp [Act.eval, Act.put]) (by simp [Act.eval, Act.put]) ?_)
                    | fail)
                  refine (tup_val As k cs w10).mono ?_
                  rintro e w11 ⟨rfl, hb11⟩
                  obtain ⟨B2, d2, w12, run12, hs12⟩ := HNX.out w11 hb11
                  have RUN12 := Lib.hid run12; have HS12 := Lib.hid hs12
                  clear hb11 run12 hs12
                  go_wp2_with (first
                    | (at_builtin; refine wpList_append_run (o := ⟨some 173, _, _, _, _, _⟩) (.tmp 169) (.tmp 172) 26 _ _ _ RUN12.out rfl rfl (by simp [Act.eval, Act.put]) (by simp [Act.eval, Act.put]) ?_)
                    | fail)
                  exact ⟨⟨i + 1, na + 1, d1, d2, B1, B2, by omega, rfl, rfl, rfl, by omega, HS12.out⟩, by simp [intOf]; omega⟩
        · have hex : ¬ ((i : Int) < (n2 : Int)) ∨ ((i : Int) < (n2 : Int) ∧ ¬ (0 : Int) < (na : Int)) := by omega
          have HI20 := Lib.hid (show i ≤ 20 by omega)
          clear hlt
          rcases hex with hg1 | ⟨hg1, hg2⟩
          all_goals
            go_wp2_with fail
            go_loopw [24, 22, 23] (fun vj v1 v2 wr => ∃ j cw cs Aw As, j ≤ n3 ∧ vj = .int .i64 (j : Int) ∧ v1 = .slice Aw j cw ∧ v2 = .slice As j cs ∧ S3 w wr gh g (80 + 5 * i) Aa na ca At ct Aw j cw As cs) (fun vj _ _ _ => n3 - (intOf vj).toNat)
            case atStart => exact ⟨0, 0, 0, none, none, Nat.zero_le _, rfl, rfl, rfl, HS.out⟩
            case round =>
              obtain ⟨j, cw, cs, Aw, As, hj, rfl, rfl, rfl, hs⟩ := hrel
              have HSj := Lib.hid hs
              clear hs
              have hj0 : (0 : Int) ≤ (j : Int) := by omega
              by_cases hltj : j < n3 ∧ 0 < na
              · have hltj1 : (j : Int) < (n3 : Int) := by omega
                have hltj2 : (0 : Int) < (na : Int) := by omega
                obtain ⟨ad3, x, rfl, had3, hx, hcx3⟩ := H3.out j hltj.1
                have hcx4 := hcx3 _ HSj.out.bl
                have HPK := Lib.hid (pick_any x (na : Int) hx (WalkArith.wf_i64 (by have := HI20.out; omega)) wr)
                obtain ⟨p, hp⟩ : ∃ p : Nat, pickN x (na : Int) = (p : Int) := ⟨(pickN x (na : Int)).toNat, by have := (pickN_range (x := x) (n := (na : Int)) (by omega)).1; omega⟩
                have hpn : p < na := by have := (pickN_range (x := x) (n := (na : Int)) (by omega)).2; omega
                rw [hp] at HPK
                have hp0 : (0 : Int) ≤ (p : Int) := by omega
                have hpn2 : (p : Int) < (na : Int) := by omega
                clear hp
                obtain ⟨ad6, u6', rfl, had6, hc6, B1, d1, w6, run6, b7, o7, A7, c7, k7, n7, s7, m7, rfl, hb7, q0, q1, q2, q3, B2, d2, w7, run7, hs7⟩ := HSj.out.pick hpn (by omega)
                have RUN6 := Lib.hid run6; have RUN7 := Lib.hid run7; have HS7 := Lib.hid hs7
                clear run6 run7 hs7
                go_wp2_with fail
                all_goals
                  refine HPK.out.mono ?_
                  rintro e w8 ⟨rfl, h8⟩
                  obtain rfl : wr = w8 := h8
                  go_wp2_with (first
                    | (at_builtin; refine wpList_append_run (o := ⟨some 198, _, _, _, _, _⟩) (.tmp 192) (.tmp 197) 39 _ _ _ RUN6.out rfl rfl (by simp [Act.eval, Act.put]) (by simp [Act.eval, Act.put]) ?_)
                    | (at_builtin; refine wpList_append_run (o := ⟨some 205, _, _, _, _, _⟩) (.tmp 199) (.tmp 204) 26 _ _ _ RUN7.out rfl rfl (by simp [Act.eval, Act.put]) (by simp [Act.eval, Act.put]) ?_)
                    | fail)
                  exact ⟨⟨j + 1, d1, d2, B1, B2, by omega, rfl, rfl, rfl, HS7.out⟩, by simp [intOf]; omega⟩
              · have HCO := Lib.hid (HSj.out.collected (by omega) (by have := HI20.out; omega))
                have hex2 : ¬ ((j : Int) < (n3 : Int)) ∨ ((j : Int) < (n3 : Int) ∧ ¬ (0 : Int) < (na : Int)) := by omega
                rcases hex2 with hg3 | ⟨hg3, hg4⟩
                all_goals
                  go_wp2_with fail
                  refine HCO.out.mono ?_
                  rintro e w8 ⟨rfl, hb8⟩
                  go_wp2_with fail
                  go_ret
                  exact ⟨rfl, hb8⟩
end Go.Proofs.Ytnedjmjcbmoknaa.Hp
/- The law HeapCollects returns true: a heap collected for roots is what was reached from them. -/
namespace Go.Proofs.Ytnedjmjcbmoknaa.HeapCollects
open Go.RowKit K At Wd Fl Hp
open Go.ChangeShapes Go.WideShapes Go.ChangeAt
set_option linter.unusedVariables false
set_option linter.unusedSimpArgs false

set_option maxRecDepth 100000 in
theorem contract {H : Type} {enc : TypeId × Value → H} (W : World) {base : Nat} {r : Reach} {b : Nat} {hd : Bool} {v0 v1 v2 : Value} {d0 d1 d2 : DataW H} {p0 p1 p2 : List MemPlace}
    (o0 : Value.okWide Try.prog W r b 26 v0) (h0 : DataW.Trod enc Try.prog W base (fun _ => true) hd 26 v0 d0 p0) (o1 : Value.okWide Try.prog W r b 49 v1) (h1 : DataW.Trod enc Try.prog W base (fun _ => true) hd 49 v1 d1 p1) (o2 : Value.okWide Try.prog W r b 50 v2) (h2 : DataW.Trod enc Try.prog W base (fun _ => true) hd 50 v2 d2 p2) {Q R : Prop} (_ : Q) (_ : R) :
    Calls Try.prog 4 #[v0, v1, v2] W fun e w' => e = .returned (.bool true) ∧ Below W.heap.size W w' := by
  obtain ⟨A1, c1, l, rfl, hl, hll, hlc, hla⟩ := open_ts o0 h0
  obtain ⟨A2, n2, c2, rfl, hr2, hn2⟩ := open_rows_arg Try.underlying49 Try.underlying50 Try.underlying3 (by kernel_rfl) (by kernel_rfl) o1 h1
  obtain ⟨A3, c3, xs, rfl, hr3, hw3, hl3, hc3, _⟩ := open_ints_arg (k := .i64) Try.underlying50 Try.underlying3 (by kernel_rfl) o2 h2
  exact collects_any W A1 A2 A3 l c1 n2 c2 xs.length c3 hl (by omega) hr2 hn2 (IRow.of hr3 hw3) (by omega)

theorem own : ownKnob Try.prog.godebug = none := by kernel_rfl
theorem laidOut : laidOutB Try.prog = true := by kernel_rfl
theorem readable : ∀ t ∈ Try.f4.params.toList, Try.prog.readableRec t = true ∧ t < Try.prog.types.size := by
  rw [show Try.f4.params = #[26, 49, 50] from Try.params4]
  intro t h
  simp only [List.mem_cons, List.not_mem_nil, or_false] at h
  rcases h with rfl | rfl | rfl
  · exact ⟨by kernel_rfl, of_decide_eq_true (by kernel_rfl)⟩
  · exact ⟨by kernel_rfl, of_decide_eq_true (by kernel_rfl)⟩
  · exact ⟨by kernel_rfl, of_decide_eq_true (by kernel_rfl)⟩
set_option maxRecDepth 100000 in
theorem lifted (os : Os) (started : os.Started) (H : Type) (enc : TypeId × Value → H) :
    ReturnsInHanded {} Try.checked os 4 .any (Rows.heapCollectsSpec.pre6 enc Try.prog Try.f4 Rows.heapCollectsRow.domain false) (Rows.heapCollectsSpec.post enc Try.prog Try.f4 false true false false) := by
  refine K.law_lift (C := Try.checked) (b := 4) own started (by kernel_rfl) Try.func4
    (ChangeSpec.witness6 (enc := enc) (C := Try.checked) false ⟨#[], #[.slice none 0 0, .slice none 0 0, .slice none 0 0], []⟩ 8 (by kernel_rfl) (by kernel_rfl) (by kernel_rfl) (by kernel_rfl)) laidOut readable rfl rfl Try.underlying4 ?_ ?_
  · intro ds hds
    rw [show Try.f4.params = #[26, 49, 50] from Try.params4] at hds
    match ds, hds with
    | [d0, d1, d2], _ => rfl
  · intro W base args ds p hval hA hlt hsz
    rw [show Try.checked.prog = Try.prog from rfl] at hval hA hsz
    rw [show Try.f4.params = #[26, 49, 50] from Try.params4] at hA hval hsz
    obtain ⟨v0, vs0, d0, ds0, p0, q0, hargs, rfl, rfl, h0, r0⟩ := trodAll_cons hA
    obtain ⟨v1, vs1, d1, ds1, p1, q1, rfl, rfl, rfl, h1, r1⟩ := trodAll_cons r0
    obtain ⟨v2, vs2, d2, ds2, p2, q2, rfl, rfl, rfl, h2, r2⟩ := trodAll_cons r1
    obtain ⟨rfl, rfl, rfl⟩ := trodAll_nil r2
    obtain rfl : args = #[v0, v1, v2] := by cases args; simp_all
    exact contract W (hval 0 26 v0 rfl rfl) h0 (hval 1 49 v1 rfl rfl) h1 (hval 2 50 v2 rfl rfl) h2 (fun x hx => hlt x hx) hsz

theorem over : Rows.heapCollectsRow.holds Try.pinned (OpenSpec.ofChange Rows.heapCollectsSpec) :=
  OpenClaim.holds_of_wide 4 Try.f4 rfl rfl rfl rfl rfl rfl rfl ⟨rfl, rfl, rfl, rfl, rfl⟩ rfl rfl rfl rfl rfl (by kernel_rfl) Try.func4 (by kernel_rfl)
    (of_decide_eq_true (by kernel_rfl)) (by unfold Func.isWrapper; rw [if_neg (of_decide_eq_false (by kernel_rfl))]; exact ⟨rfl, rfl⟩)
    (fun os started H enc _ => lifted os started H enc)

/-- THE STATEMENT -/
theorem proved : Rows.HeapCollectsSaid := over
#print axioms proved
end Go.Proofs.Ytnedjmjcbmoknaa.HeapCollects
