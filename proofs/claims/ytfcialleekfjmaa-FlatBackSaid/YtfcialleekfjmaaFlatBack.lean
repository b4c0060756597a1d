/- The law FlatBack returns true for every input: what is written is read as it was, each element too, and what is read is written as it was. (Printed by mk_flatback.py.) -/
import Derived.Test.YtfcialleekfjmaaFlBack
import Derived.Test.YtfcialleekfjmaaTmBig
import Derived.Test.YtfcialleekfjmaaOpenTm
import Derived.Test.YtfcialleekfjmaaWords
namespace Go.Proofs.Ytfcialleekfjmaa.FlatBack
open Go.RowKit K At Fl
open Go.ChangeShapes Go.WideShapes Go.ChangeAt
set_option linter.unusedVariables false
set_option linter.unusedSimpArgs false

set_option maxRecDepth 100000 in
set_option maxHeartbeats 16000000 in
theorem walk (Ax : Option Addr) (cx : Nat) (xs : List ByteArray) (t : Tm) (vt : Value) (Al : Option Addr) (cl : Nat) (l : List Int) (w : World) (hr : Reads w w.heap.size 1 Ax xs.length (xs.map Value.string)) (hx : ∀ s ∈ xs, s.size ≤ maxLen) (hl : xs.length ≤ cx) (hc : cx ≤ maxLen) (ht : TA w t vt)
    (hrw : Reads w w.heap.size 1 Al l.length (u64s l)) (hU : ∀ x ∈ l, U64 x) (hlc : l.length ≤ cl) (hclm : cl ≤ maxLen) (hAl : Al = none → cl = 0) :
    Calls Try.prog 7 #[.slice Ax xs.length cx, vt, .slice Al l.length cl] w fun e w' => e = .returned (.bool true) ∧ Below w.heap.size w w' := by
  have ht0 := ht
  obtain ⟨k, n, s, tl, A, c, hte, rfl, ok, _⟩ := ht.open_
  obtain ⟨m, hm⟩ : ∃ m, tl.length = m := ⟨_, rfl⟩
  rw [hm] at ht0 ⊢
  have hB := Blk.new w 24 #[.int .i64 k, .int .i64 n, .string s, .slice A m c]
  have hb0 := ballocs (Below.refl w.heap.size w) (.cells #[.int .i64 k, .int .i64 n, .string s, .slice A m c] 24)
  obtain ⟨w0, hw0⟩ : ∃ x, w.alloc (.cells #[.int .i64 k, .int .i64 n, .string s, .slice A m c] 24) = x := ⟨_, rfl⟩
  rw [hw0] at hB hb0
  have HW0 := Lib.hid hw0
  have HT := Lib.hid (show TAt w (· < w.heap.size) t _ from ht0)
  have HBX := Lib.hid hB; have HB0 := Lib.hid hb0
  have HR0 := Lib.hid (show ∀ wz, Below w.heap.size w wz → Reads wz wz.heap.size 1 Ax xs.length (xs.map Value.string) from fun wz hb => (hr.below hb).more hb.size)
  have HX := Lib.hid hx; have HL := Lib.hid hl; have HCX := Lib.hid hc
  have HRW := Lib.hid hrw; have HU := Lib.hid hU; have HLC := Lib.hid hlc; have HAL := Lib.hid hAl
  have hlm : l.length ≤ 1099511627776 ∨ 1099511627776 < l.length := by omega
  have hl64 : l.length ≤ 9223372036854775807 := by unfold maxLen at hclm; omega
  clear ht ht0 hte ok hw0 hB hb0 hr hx hl hc hm hrw hU hlc hclm hAl
  go_enter Try.func7, Try.ntmps7
  go_wp2_with fail
  rw [HW0.out]
  refine (known_any _).mono ?_
  rintro e w1 ⟨rfl, hb1⟩
  have HB1 := Lib.hid (fbelow HB0.out hb1)
  have HBX1 := Lib.hid (HBX.out.below hb1 HBX.out.lt)
  clear hb1
  obtain ⟨p0, p1, p2, p3, _, _, _, _⟩ := HBX1.out.four
  have HLG := Lib.hid (largeTerm_any t 300 _ w1 (by decide) (show TA w1 t _ from (HT.out.under HB1.out (fun b hb => hb)).mono (fun b hb => Nat.lt_of_lt_of_le hb HB1.out.size)))
  have HLT := Lib.hid (longTexts_any Ax cx xs 20 w1 (HR0.out w1 HB1.out) HX.out HL.out HCX.out)
  go_wp2_with fail
  refine HLT.out.mono ?_
  rintro e w' ⟨⟨b, rfl⟩, hww⟩
  obtain rfl : w1 = w' := hww.symm
  cases b with
  | true =>
    go_wp2_with fail
    go_ret
    exact ⟨ret1_b rfl, HB1.out⟩
  | false =>
  go_wp2_with fail
  refine HLG.out.mono ?_
  rintro e w2 ⟨rfl, hb2⟩
  have HB2 := Lib.hid (fbelow HB1.out hb2)
  have HBX2 := Lib.hid (HBX1.out.below hb2 HBX1.out.lt)
  clear hb2 p0 p1 p2 p3
  cases hlg : largeT t 300 with
  | true =>
    go_wp2_with fail
    go_ret
    exact ⟨ret1_b rfl, HB2.out⟩
  | false =>
  have HND := Lib.hid (small_nodes hlg (n := 300) (Nat.le_refl _))
  clear hlg
  by_cases h300 : l.length ≤ 300
  rotate_left
  · have b3 : decide ((300 : Int) < (l.length : Int)) = true := decide_eq_true (by omega)
    clear hlm
    go_wp2_with fail
    go_ret
    exact ⟨ret1_b rfl, HB2.out⟩
  have b3 : decide ((300 : Int) < (l.length : Int)) = false := decide_eq_false (by omega)
  clear hlm
  go_wp2_with fail
  refine (atoms_any Ax cx xs w2 (HR0.out w2 HB2.out) HX.out HL.out HCX.out).mono ?_
  rintro e w3 ⟨g, h, F, G, L, rfl, hd⟩
  have HD3 := Lib.hid (show KE w2 w3 g F L from ⟨hd.tab, hd.bel, hd.fnew⟩)
  have HBX3 := Lib.hid (HBX2.out.below hd.bel HBX2.out.lt)
  obtain ⟨p0, p1, p2, p3, _, _, _, _⟩ := HBX3.out.four
  have HT3 := Lib.hid (HT.out.under (fbelow HB2.out hd.bel) (fun b hb => hb))
  have HZ2 := Lib.hid (show w.heap.size < w2.heap.size from HBX2.out.lt)
  have HZ23 := Lib.hid hd.bel.size
  clear hd
  go_wp2_with fail
  refine (flatten_any g L t _ w3 F (· < w.heap.size) HD3.out.tab HT3.out (fun b hb => ⟨by have := HZ2.out; have := HZ23.out; omega, fun hf => by have := HD3.out.new b hf; have := HZ2.out; omega⟩) (by have := HND.out; omega)).mono ?_
  intro e w4 hp
  obtain ⟨F4, A4, c4, rfl, hE4, hk4, hF4, hR4, hl4, hA4, ho4⟩ := FlatPost.open_ HD3.out hp
  have HBX4 := Lib.hid (HBX3.out.keep hk4 (fun hf => by have := HD3.out.new _ hf; have := HZ2.out; omega))
  have HT4 := Lib.hid (HT3.out.keepF hk4 (fun b hb => by have := HZ2.out; have := HZ23.out; omega) (fun b hb hf => by have := HD3.out.new _ hf; have := HZ2.out; omega))
  have HZ34 := Lib.hid hk4.size
  by_cases hE0 : flE L t = 0
  · have HC := Lib.hid (show chk t = 0 ∧ (nums t L).1 = true from by
      unfold flE at hE0
      by_cases hc : chk t = 0
      · rw [if_pos hc] at hE0
        by_cases hn : (nums t L).1 = true
        · exact ⟨hc, hn⟩
        · rw [if_neg hn] at hE0; cases hE0
      · rw [if_neg hc] at hE0; exact absurd hE0 hc)
    have hW : flW L t = Fl.flat (ix (flL L t)) t := by unfold flW flL; rw [if_pos hE0, if_pos HC.out.1]
    have HAT := Lib.hid (show ∀ s ∈ atoms t, s ∈ flL L t from by unfold flL; rw [if_pos HC.out.1]; exact nums_in t L HC.out.2)
    rw [hW] at hR4 hl4 ⊢
    rw [hE0]
    obtain ⟨L4, hL4⟩ : ∃ L4, flL L t = L4 := ⟨_, rfl⟩
    rw [hL4] at hR4 hl4 hE4 HAT ⊢
    have HKE4 := Lib.hid hE4; have HRO4 := Lib.hid hR4; have HL4 := Lib.hid hl4; have HA4 := Lib.hid hA4
    have hrf := rd_flat hE4.facts.2.2 HC.out.1 HAT.out
    have hfl := flat_len (ix L4) t
    have HRX := Lib.hid (read_any g A4 (Fl.flat (ix L4) t) c4 F4 L4 (flat_U _ _) hl4 hA4 hE4.facts.2.1 w4 hE4.tab hR4.reads)
    have HRF := Lib.hid hrf
    clear hp hE4 hk4 hF4 hR4 hl4 hA4 ho4 hE0 hW hL4 hrf p0 p1 p2 p3
    have HPT := Lib.hid (fun w8 (hke : KE w2 w8 g F4 L4) (htt : TAt w8 (· < w.heap.size) t (.agg #[.int .i64 k, .int .i64 n, .string s, .slice A m c])) (hro : RO w8 F4 A4 (Fl.flat (ix L4) t).length (u64s (Fl.flat (ix L4) t))) => parts_any hke t _ htt (fun b hb => ⟨by have := HZ2.out; have := hke.bel.size; omega, fun hf => by have := hke.new b hf; have := HZ2.out; omega⟩) HC.out.1 HAT.out A4 c4 hro HL4.out HA4.out)
    obtain ⟨Lf, hLf⟩ : ∃ Lf, Fl.flat (ix L4) t = Lf := ⟨_, rfl⟩
    rw [hLf] at HRX HRF HRO4 HPT hfl ⊢
    obtain ⟨Nf, hNf⟩ : ∃ Nf, Lf.length = Nf := ⟨_, rfl⟩
    rw [hNf] at HRX HRO4 HPT hfl ⊢
    have HFL := Lib.hid hfl
    clear hLf hNf hfl
    go_wp2_with fail
    rename_i K1 hK1 K2 hK2
    have HKK := Lib.hid hK1
    clear hK1
    refine HRX.out.mono ?_
    rintro e w5 ⟨hb5, (⟨u, vu, hF, _, _, rfl, htu⟩ | ⟨hE, _⟩)⟩
    rotate_left
    · have := HRF.out.2.1; omega
    obtain rfl : t = u := by rw [HRF.out.1] at hF; injection hF
    obtain ⟨Au, cu, rfl, _, _⟩ := htu.inv
    unfold tv at htu ⊢
    have HTU := Lib.hid htu; have HB5 := Lib.hid hb5
    clear htu hb5 hF
    go_wp2_with fail
    refine HKK.out _ _ ?_
    have hx6 := Blk.new w5 24 #[.int .i64 t.k, .int .i64 t.n, .string t.s, .slice Au t.l.length cu]
    have hb6 := ballocs (Below.refl w5.heap.size w5) (.cells #[.int .i64 t.k, .int .i64 t.n, .string t.s, .slice Au t.l.length cu] 24)
    obtain ⟨w6, hw6⟩ : ∃ x, w5.alloc (.cells #[.int .i64 t.k, .int .i64 t.n, .string t.s, .slice Au t.l.length cu] 24) = x := ⟨_, rfl⟩
    rw [hw6] at hx6 hb6 ⊢
    obtain ⟨g5, hg5⟩ : ∃ g5, w5.heap.size = g5 := ⟨_, rfl⟩
    rw [hg5] at hx6 ⊢
    have hb46 := fbelow HB5.out hb6
    obtain ⟨x0, x1, x2, x3, _, _, _, _⟩ := hx6.four
    have HBX6 := Lib.hid (HBX4.out.below hb46 HBX4.out.lt)
    obtain ⟨q0, q1, q2, q3, _, _, _, _⟩ := HBX6.out.four
    have HKE6 := Lib.hid (HKE4.out.below hb46); have HRO6 := Lib.hid (HRO4.out.below hb46)
    have hwl : w.heap.size ≤ w4.heap.size := by have := HZ2.out; have := HZ23.out; have := HZ34.out; omega
    have HT6 := Lib.hid (HT4.out.under hb46 (fun b hb => Nat.lt_of_lt_of_le hb hwl))
    have HTU6 := Lib.hid (show TA w6 t _ from (HTU.out.under hb6 (fun b hb => hb.2)).mono (fun b hb => Nat.lt_of_lt_of_le hb.2 hb6.size))
    have HZ46 := Lib.hid (show w.heap.size ≤ w6.heap.size from Nat.le_trans hwl hb46.size)
    clear hw6 hx6 hb6 hg5 hb46 hwl
    go_wp2_with fail
    refine (same_any t t _ _ w6 HTU6.out (show TA w6 t _ from HT6.out.mono (fun b hb => Nat.lt_of_lt_of_le hb HZ46.out)) (by have := HND.out; omega)).mono ?_
    rintro e w7 ⟨rfl, hb7⟩
    rw [eqT_self]
    have HBX7 := Lib.hid (HBX6.out.below hb7 HBX6.out.lt); have HKE7 := Lib.hid (HKE6.out.below hb7); have HRO7 := Lib.hid (HRO6.out.below hb7)
    have HT7 := Lib.hid (HT6.out.under hb7 (fun b hb => Nat.lt_of_lt_of_le hb HZ46.out))
    have HZ7 := Lib.hid (Nat.le_trans HZ46.out hb7.size)
    clear hb7 q0 q1 q2 q3 x0 x1 x2 x3
    obtain ⟨q0, q1, q2, q3, _, _, _, _⟩ := HBX7.out.four
    go_wp2_with fail
    refine (words_any t _ w7 (show TA w7 t _ from HT7.out.mono (fun b hb => Nat.lt_of_lt_of_le hb HZ7.out)) (by have := HND.out; omega)).mono ?_
    rintro e w8 ⟨rfl, hb8⟩
    rw [← HFL.out]
    have hnn : ((Nf : Int) != (Nf : Int)) = false := by simp
    have HBX8 := Lib.hid (HBX7.out.below hb8 HBX7.out.lt); have HKE8 := Lib.hid (HKE7.out.below hb8); have HRO8 := Lib.hid (HRO7.out.below hb8)
    have HT8 := Lib.hid (HT7.out.under hb8 (fun b hb => Nat.lt_of_lt_of_le hb HZ7.out))
    clear hb8 q0 q1 q2 q3
    obtain ⟨q0, q1, q2, q3, _, _, _, _⟩ := HBX8.out.four
    go_wp2_with fail
    refine (HPT.out w8 HKE8.out HT8.out HRO8.out).mono ?_
    rintro e w9 ⟨rfl, F5, hke5, _, _⟩
    have HKZ := Lib.hid hke5
    clear hke5 q0 q1 q2 q3
    go_wp2_with fail
    have HRD := Lib.hid (read_any g Al l cl F5 L4 HU.out HLC.out HAL.out HKZ.out.facts.2.1 w9 HKZ.out.tab ((HRW.out.below (fbelow HB2.out HKZ.out.bel)).more (fbelow HB2.out HKZ.out.bel).size))
    go_wp2_with fail
    rename_i K1 hK1 K2 hK2
    have HKK := Lib.hid hK1
    clear hK1
    refine HRD.out.mono ?_
    rintro e z1 ⟨hbz1, (⟨v, vv, hF, h6, hE0, rfl, htv⟩ | ⟨hE, rfl⟩)⟩
    · obtain ⟨Av, cv, rfl, _, _⟩ := htv.inv
      obtain ⟨hchk, hats, hflat⟩ := rdF_chk HKZ.out.facts.2.1 HU.out h6 hF
      have hnd := chk_nodes hchk
      obtain ⟨fe, fl, fw⟩ := flE_there HKZ.out.facts.2.1 hchk hats
      have hfw : flW L4 v = l := by rw [fw]; exact hflat HKZ.out.facts.1
      unfold tv at htv ⊢
      have HTV := Lib.hid htv; have HBZ := Lib.hid hbz1; have HND2 := Lib.hid hnd; have HFE := Lib.hid fe; have HFW := Lib.hid hfw
      clear htv hbz1 hF hE0 hchk hats hflat hnd fe fl fw hfw
      go_wp2_with fail
      refine HKK.out _ _ ?_
      have hx4 := Blk.new z1 24 #[.int .i64 v.k, .int .i64 v.n, .string v.s, .slice Av v.l.length cv]
      have hb4 := ballocs (Below.refl z1.heap.size z1) (.cells #[.int .i64 v.k, .int .i64 v.n, .string v.s, .slice Av v.l.length cv] 24)
      obtain ⟨z2, hz2⟩ : ∃ x, z1.alloc (.cells #[.int .i64 v.k, .int .i64 v.n, .string v.s, .slice Av v.l.length cv] 24) = x := ⟨_, rfl⟩
      rw [hz2] at hx4 hb4 ⊢
      obtain ⟨g8, hg8⟩ : ∃ g8, z1.heap.size = g8 := ⟨_, rfl⟩
      rw [hg8] at hx4 ⊢
      obtain ⟨x0, x1, x2, x3, _, _, _, _⟩ := hx4.four
      have HKZ2 := Lib.hid (HKZ.out.below (fbelow HBZ.out hb4))
      have HTV2 := Lib.hid (HTV.out.under hb4 (fun b hb => hb.2))
      have HZL := Lib.hid hb4.size
      have HFLT := Lib.hid (Tab.lt_ HKZ.out.tab)
      clear hz2 hx4 hb4 hg8
      go_wp2_with fail
      refine (flatten_any g L4 v _ z2 F5 (Fr w9 z1) HKZ2.out.tab HTV2.out (fun b hb => ⟨Nat.lt_of_lt_of_le hb.2 HZL.out, fun hf => by have := HFLT.out b hf; have := hb.1; omega⟩) (Nat.le_trans HND2.out (by decide))).mono ?_
      intro e z3 hp
      obtain ⟨F9, A9, c9, rfl, hE9, hk9, hF9, hR9, _, _, ho9⟩ := FlatPost.open_ HKZ2.out hp
      rw [HFW.out] at hR9 ⊢
      rw [HFE.out]
      have HSW := Lib.hid (sameWords_yes A9 Al c9 cl _ _ l z3 hR9.reads ((HRW.out.below (fbelow HB2.out hE9.bel)).more (fbelow HB2.out hE9.bel).size) (by omega))
      have HEND := Lib.hid (fun n => fdrewN (fbelow HB2.out hE9.bel) n)
      clear hp hE9 hk9 hF9 hR9 ho9 x0 x1 x2 x3
      obtain ⟨NL, hNL⟩ : ∃ NL, l.length = NL := ⟨_, rfl⟩
      rw [hNL] at HSW ⊢
      clear hNL
      go_wp2_with fail
      refine HSW.out.mono ?_
      rintro e w' ⟨rfl, n9, rfl⟩
      have HEN := Lib.hid (HEND.out n9)
      clear HEND
      go_wp2_with fail
      go_ret
      exact ⟨ret1_b rfl, HEN.out⟩
    · have HEN := Lib.hid (fun o => ballocs (fbelow (fbelow HB2.out HKZ.out.bel) hbz1) o)
      clear hbz1
      rcases hE with hE | hE
      · rw [hE]
        clear hE
        go_wp2_with fail
        refine HKK.out _ _ ?_
        go_wp2_with fail
        go_ret
        exact ⟨ret1_b rfl, HEN.out _⟩
      · rw [hE]
        clear hE
        go_wp2_with fail
        refine HKK.out _ _ ?_
        go_wp2_with fail
        go_ret
        exact ⟨ret1_b rfl, HEN.out _⟩
  · have hne : (flE L t == 0) = false := by simpa using hE0
    have HKZ := Lib.hid hE4
    clear hp hE4 hk4 hF4 hR4 hl4 hA4 ho4 hE0 p0 p1 p2 p3
    obtain ⟨L4, hL4⟩ : ∃ L4, flL L t = L4 := ⟨_, rfl⟩
    rw [hL4] at HKZ
    obtain ⟨ye, hye⟩ : ∃ ye, flE L t = ye := ⟨_, rfl⟩
    rw [hye] at hne ⊢
    obtain ⟨Nf, hNf⟩ : ∃ Nf, (flW L t).length = Nf := ⟨_, rfl⟩
    rw [hNf]
    clear hL4 hye hNf
    go_wp2_with fail
    have HRD := Lib.hid (read_any g Al l cl F4 L4 HU.out HLC.out HAL.out HKZ.out.facts.2.1 w4 HKZ.out.tab ((HRW.out.below (fbelow HB2.out HKZ.out.bel)).more (fbelow HB2.out HKZ.out.bel).size))
    go_wp2_with fail
    rename_i K1 hK1 K2 hK2
    have HKK := Lib.hid hK1
    clear hK1
    refine HRD.out.mono ?_
    rintro e z1 ⟨hbz1, (⟨v, vv, hF, h6, hE0, rfl, htv⟩ | ⟨hE, rfl⟩)⟩
    · obtain ⟨Av, cv, rfl, _, _⟩ := htv.inv
      obtain ⟨hchk, hats, hflat⟩ := rdF_chk HKZ.out.facts.2.1 HU.out h6 hF
      have hnd := chk_nodes hchk
      obtain ⟨fe, fl, fw⟩ := flE_there HKZ.out.facts.2.1 hchk hats
      have hfw : flW L4 v = l := by rw [fw]; exact hflat HKZ.out.facts.1
      unfold tv at htv ⊢
      have HTV := Lib.hid htv; have HBZ := Lib.hid hbz1; have HND2 := Lib.hid hnd; have HFE := Lib.hid fe; have HFW := Lib.hid hfw
      clear htv hbz1 hF hE0 hchk hats hflat hnd fe fl fw hfw
      go_wp2_with fail
      refine HKK.out _ _ ?_
      have hx4 := Blk.new z1 24 #[.int .i64 v.k, .int .i64 v.n, .string v.s, .slice Av v.l.length cv]
      have hb4 := ballocs (Below.refl z1.heap.size z1) (.cells #[.int .i64 v.k, .int .i64 v.n, .string v.s, .slice Av v.l.length cv] 24)
      obtain ⟨z2, hz2⟩ : ∃ x, z1.alloc (.cells #[.int .i64 v.k, .int .i64 v.n, .string v.s, .slice Av v.l.length cv] 24) = x := ⟨_, rfl⟩
      rw [hz2] at hx4 hb4 ⊢
      obtain ⟨g8, hg8⟩ : ∃ g8, z1.heap.size = g8 := ⟨_, rfl⟩
      rw [hg8] at hx4 ⊢
      obtain ⟨x0, x1, x2, x3, _, _, _, _⟩ := hx4.four
      have HKZ2 := Lib.hid (HKZ.out.below (fbelow HBZ.out hb4))
      have HTV2 := Lib.hid (HTV.out.under hb4 (fun b hb => hb.2))
      have HZL := Lib.hid hb4.size
      have HFLT := Lib.hid (Tab.lt_ HKZ.out.tab)
      clear hz2 hx4 hb4 hg8
      go_wp2_with fail
      refine (flatten_any g L4 v _ z2 F4 (Fr w4 z1) HKZ2.out.tab HTV2.out (fun b hb => ⟨Nat.lt_of_lt_of_le hb.2 HZL.out, fun hf => by have := HFLT.out b hf; have := hb.1; omega⟩) (Nat.le_trans HND2.out (by decide))).mono ?_
      intro e z3 hp
      obtain ⟨F9, A9, c9, rfl, hE9, hk9, hF9, hR9, _, _, ho9⟩ := FlatPost.open_ HKZ2.out hp
      rw [HFW.out] at hR9 ⊢
      rw [HFE.out]
      have HSW := Lib.hid (sameWords_yes A9 Al c9 cl _ _ l z3 hR9.reads ((HRW.out.below (fbelow HB2.out hE9.bel)).more (fbelow HB2.out hE9.bel).size) (by omega))
      have HEND := Lib.hid (fun n => fdrewN (fbelow HB2.out hE9.bel) n)
      clear hp hE9 hk9 hF9 hR9 ho9 x0 x1 x2 x3
      obtain ⟨NL, hNL⟩ : ∃ NL, l.length = NL := ⟨_, rfl⟩
      rw [hNL] at HSW ⊢
      clear hNL
      go_wp2_with fail
      refine HSW.out.mono ?_
      rintro e w' ⟨rfl, n9, rfl⟩
      have HEN := Lib.hid (HEND.out n9)
      clear HEND
      go_wp2_with fail
      go_ret
      exact ⟨ret1_b rfl, HEN.out⟩
    · have HEN := Lib.hid (fun o => ballocs (fbelow (fbelow HB2.out HKZ.out.bel) hbz1) o)
      clear hbz1
      rcases hE with hE | hE
      · rw [hE]
        clear hE
        go_wp2_with fail
        refine HKK.out _ _ ?_
        go_wp2_with fail
        go_ret
        exact ⟨ret1_b rfl, HEN.out _⟩
      · rw [hE]
        clear hE
        go_wp2_with fail
        refine HKK.out _ _ ?_
        go_wp2_with fail
        go_ret
        exact ⟨ret1_b rfl, HEN.out _⟩
set_option maxRecDepth 100000 in
theorem contract {H : Type} {enc : TypeId × Value → H} (W : World) {base : Nat} {r : Reach} {b : Nat} {hd : Bool} {v0 v1 v2 : Value} {d0 d1 d2 : DataW H} {p0 p1 p2 : List MemPlace}
    (o0 : Value.okWide Try.prog W r b 28 v0) (h0 : DataW.Trod enc Try.prog W base (fun _ => true) hd 28 v0 d0 p0) (o1 : Value.okWide Try.prog W r b 24 v1) (h1 : DataW.Trod enc Try.prog W base (fun _ => true) hd 24 v1 d1 p1)
    (o2 : Value.okWide Try.prog W r b 25 v2) (h2 : DataW.Trod enc Try.prog W base (fun _ => true) hd 25 v2 d2 p2) {Q R : Prop} (_ : Q) (_ : R) :
    Calls Try.prog 7 #[v0, v1, v2] W fun e w' => e = .returned (.bool true) ∧ Below W.heap.size W w' := by
  obtain ⟨A, c, xs, rfl, hr, hx, hl, hc, _⟩ := open_strs_arg Try.underlying28 Try.underlying9 (by kernel_rfl) o0 h0
  obtain ⟨t, ht⟩ := open_t o1 h1
  obtain ⟨A2, c2, l, rfl, hr2, hU, hl2, hc2, hA2⟩ := open_ints_arg (k := .u64) Try.underlying25 Try.underlying49 (by kernel_rfl) o2 h2
  exact walk A c xs t v1 A2 c2 l W hr hx hl hc ht hr2 (fun x hx => by have h := hU x hx; simp [Lit.wf, IntKind.min, IntKind.max, IntKind.signed, IntKind.bits] at h; unfold U64; omega) hl2 hc2 hA2

theorem own : ownKnob Try.prog.godebug = none := by kernel_rfl
theorem laidOut : laidOutB Try.prog = true := by kernel_rfl
theorem readable : ∀ t ∈ Try.f7.params.toList, Try.prog.readableRec t = true ∧ t < Try.prog.types.size := by
  rw [show Try.f7.params = #[28, 24, 25] from Try.params7]
  intro t h
  simp only [List.mem_cons, List.not_mem_nil, or_false] at h
  rcases h with rfl | rfl | rfl
  · exact ⟨by kernel_rfl, of_decide_eq_true (by kernel_rfl)⟩
  · exact ⟨by kernel_rfl, of_decide_eq_true (by kernel_rfl)⟩
  · exact ⟨by kernel_rfl, of_decide_eq_true (by kernel_rfl)⟩
set_option maxRecDepth 100000 in
theorem lifted (os : Os) (started : os.Started) (H : Type) (enc : TypeId × Value → H) :
    ReturnsInHanded {} Try.checked os 7 .any (Rows.flatBackSpec.pre6 enc Try.prog Try.f7 Rows.flatBackRow.domain false) (Rows.flatBackSpec.post enc Try.prog Try.f7 false true false false) := by
  refine K.law_lift (C := Try.checked) (b := 4) own started (by kernel_rfl) Try.func7
    (ChangeSpec.witness6 (enc := enc) (C := Try.checked) false ⟨#[], #[.slice none 0 0, .agg #[.int .i64 0, .int .i64 0, .string ByteArray.empty, .slice none 0 0], .slice none 0 0], []⟩ 8 (by kernel_rfl) (by kernel_rfl) (by kernel_rfl) (by kernel_rfl)) laidOut readable rfl rfl Try.underlying4 ?_ ?_
  · intro ds hds
    rw [show Try.f7.params = #[28, 24, 25] from Try.params7] at hds
    match ds, hds with
    | [d0, d1, d2], _ => rfl
  · intro W base args ds p hval hA hlt hsz
    rw [show Try.checked.prog = Try.prog from rfl] at hval hA hsz
    rw [show Try.f7.params = #[28, 24, 25] from Try.params7] at hA hval hsz
    obtain ⟨v0, vs0, d0, ds0, p0, q0, hargs, rfl, rfl, h0, r0⟩ := trodAll_cons hA
    obtain ⟨v1, vs1, d1, ds1, p1, q1, rfl, rfl, rfl, h1, r1⟩ := trodAll_cons r0
    obtain ⟨v2, vs2, d2, ds2, p2, q2, rfl, rfl, rfl, h2, r2⟩ := trodAll_cons r1
    obtain ⟨rfl, rfl, rfl⟩ := trodAll_nil r2
    obtain rfl : args = #[v0, v1, v2] := by cases args; simp_all
    exact contract W (hval 0 28 v0 rfl rfl) h0 (hval 1 24 v1 rfl rfl) h1 (hval 2 25 v2 rfl rfl) h2 (fun x hx => hlt x hx) hsz

theorem over : Rows.flatBackRow.holds Try.pinned (OpenSpec.ofChange Rows.flatBackSpec) :=
  OpenClaim.holds_of_wide 7 Try.f7 rfl rfl rfl rfl rfl rfl rfl ⟨rfl, rfl, rfl, rfl, rfl⟩ rfl rfl rfl rfl rfl (by kernel_rfl) Try.func7 (by kernel_rfl)
    (of_decide_eq_true (by kernel_rfl)) (by unfold Func.isWrapper; rw [if_neg (of_decide_eq_false (by kernel_rfl))]; exact ⟨rfl, rfl⟩)
    (fun os started H enc _ => lifted os started H enc)

/-- THE STATEMENT -/
theorem proved : Rows.FlatBackSaid := over
#print axioms proved
end Go.Proofs.Ytfcialleekfjmaa.FlatBack
