/- The law FlatReads returns true for every input: which term words are, and which words an element has, is the document's answer; no atoms are put. -/
import Derived.Test.YtfcialleekfjmaaFlRRead
import Derived.Test.YtfcialleekfjmaaFlKit
import Derived.Test.YtfcialleekfjmaaFlLent
import Derived.Test.YtfcialleekfjmaaFlVal
namespace Go.Proofs.Ytfcialleekfjmaa.FlatReads
open Go.RowKit K At Fl
open Go.ChangeShapes Go.WideShapes Go.ChangeAt
set_option linter.unusedVariables false
set_option linter.unusedSimpArgs false

/-- The term that Read answers, or none's. -/
def rdQ (Ts : List ByteArray) (l : List Int) : Tm := if rdE Ts l = 0 then (match rdF Ts l with
  | none => .mk 0 0 ⟨#[]⟩ []
  | some t => t) else .mk 0 0 ⟨#[]⟩ []
theorem read_form {w w' : World} {Ts : List ByteArray} {l : List Int} {e : Ending} (h : ReadPost w Ts l e w') :
    ∃ k n s A m c, e = .returned (.tuple #[.agg #[.int .i64 k, .int .i64 n, .string s, .slice A m c], .int .i64 (rdE Ts l)]) ∧ TAt w' (Fr w w') (rdQ Ts l) (.agg #[.int .i64 k, .int .i64 n, .string s, .slice A m c]) ∧ Below w.heap.size w w' := by
  obtain ⟨hb, (⟨t, v, hF, _, hE, rfl, ht⟩ | ⟨hE, rfl⟩)⟩ := h
  · obtain ⟨A, c, rfl, _, _⟩ := ht.inv
    have hq : rdQ Ts l = t := by unfold rdQ; rw [if_pos hE, hF]
    exact ⟨t.k, t.n, t.s, A, t.l.length, c, by rw [hE]; rfl, by rw [hq]; exact ht, hb⟩
  · have hq : rdQ Ts l = .mk 0 0 ⟨#[]⟩ [] := by unfold rdQ; rw [if_neg (by omega)]
    exact ⟨0, 0, ⟨#[]⟩, none, 0, 0, rfl, by rw [hq]; exact leafF w' 0 0 ⟨#[]⟩ (by decide) (by decide) (by decide), hb⟩
theorem partW_len (L : List ByteArray) (l : List Int) (n : Int) : (partW L l n).length ≤ 65536 := by
  unfold partW
  split
  · split
    · simp
    · rename_i u _
      unfold flW
      split
      · rename_i h
        by_cases hc : chk u = 0
        · have h1 := (chk_snd hc).2
          have := flat_len (ix (nums u L).2) u
          omega
        · unfold flE at h
          rw [if_neg hc] at h
          exact absurd h hc
      · simp
  · simp
set_option maxRecDepth 100000 in
set_option maxHeartbeats 16000000 in
theorem walk (Ax : Option Addr) (cx : Nat) (xs : List ByteArray) (Al : Option Addr) (cl : Nat) (l : List Int) (n : Int) (w : World) (hr : Reads w w.heap.size 1 Ax xs.length (xs.map Value.string)) (hx : ∀ s ∈ xs, s.size ≤ maxLen) (hl : xs.length ≤ cx) (hc : cx ≤ maxLen)
    (hrw : Reads w w.heap.size 1 Al l.length (u64s l)) (hU : ∀ x ∈ l, U64 x) (hlc : l.length ≤ cl) (hclm : cl ≤ maxLen) (hAl : Al = none → cl = 0) (hn : (Lit.int .i64 n).wf = true) :
    Calls Try.prog 6 #[.slice Ax xs.length cx, .slice Al l.length cl, .int .i64 n] w fun e w' => e = .returned (.bool true) ∧ Below w.heap.size w w' := by
  have HLT := Lib.hid (longTexts_any Ax cx xs 20 w hr hx hl hc)
  have HAT := Lib.hid (atoms_any Ax cx xs w hr hx hl hc)
  have HRW := Lib.hid hrw; have HU := Lib.hid hU; have HLC := Lib.hid hlc; have HN := Lib.hid hn
  have hl64 : l.length ≤ 9223372036854775807 := by unfold maxLen at hclm; omega
  clear hr hx hl hc hrw hU hlc hclm hAl hn
  go_enter Try.func6, Try.ntmps6
  go_wp2_with fail
  refine HLT.out.mono ?_
  rintro e w' ⟨⟨b, rfl⟩, hww⟩
  obtain rfl : w = w' := hww.symm
  cases b with
  | true =>
    go_wp2_with fail
    go_ret
    exact ⟨ret1_b rfl, Below.refl _ _⟩
  | false =>
  by_cases h1000 : l.length ≤ 1000
  rotate_left
  · have b3 : decide ((1000 : Int) < (l.length : Int)) = true := decide_eq_true (by omega)
    go_wp2_with fail
    go_ret
    exact ⟨ret1_b rfl, Below.refl _ _⟩
  have b3 : decide ((1000 : Int) < (l.length : Int)) = false := decide_eq_false (by omega)
  clear hl64
  go_wp2_with fail
  refine HAT.out.mono ?_
  rintro e w1 ⟨g, h, F, G, L, rfl, hd⟩
  have HD1 := Lib.hid hd
  have HRL := Lib.hid (show ∀ wz, Below w.heap.size w wz → Reads wz wz.heap.size 1 Al l.length (u64s l) from fun wz hb => (HRW.out.below hb).more hb.size)
  have HFA := Lib.hid hd.facts
  have HLW := Lib.hid (lentW_any Al cl l w1 (HRL.out w1 hd.bel) h1000)
  have HFL := Lib.hid (Tab.lt_ hd.tab); have HGL := Lib.hid (RTab.lt_ hd.rtab)
  clear hd
  obtain ⟨N, hN⟩ : ∃ N, l.length = N := ⟨_, rfl⟩
  have HNN := Lib.hid hN
  rw [hN] at HLW h1000 b3 ⊢
  go_wp2_with fail
  refine HLW.out.mono ?_
  rintro e w2 ⟨bi, cc, rfl, hoi, hb2⟩
  obtain ⟨Aq, cc', hfe, hcc, hcm⟩ := ownsRow_form hoi
  injection hfe with hfe1 hfe2 hfe3
  subst hfe1 hfe3
  clear hfe2
  have hbi : w1.heap.size ≤ bi ∧ bi < w2.heap.size := hoi.lt bi rfl
  have HIN2 := Lib.hid (RO.of_own (F := fun b => F b ∨ G b) (n := N + 3) hoi (fun r hr hf => by
    have := (hoi.lt r hr).1
    rcases hf with hf | hf
    · have := HFL.out r hf; omega
    · have := HGL.out r hf; omega))
  have HD2 := Lib.hid (HD1.out.below hb2)
  have HCC := Lib.hid hcc; have HCM := Lib.hid hcm; have HBI := Lib.hid hbi
  have HZ12 := Lib.hid hb2.size
  have htk : (u64s (l ++ spW)).take N = u64s l := by unfold u64s; rw [List.map_append, List.take_left' (by rw [List.length_map]; exact hN)]
  have HIR2 := Lib.hid (show Reads w2 w2.heap.size 1 (some ⟨bi, 0, none⟩) l.length (u64s l) from by
    have := (HIN2.out.sub (m := N) (by omega)).reads
    rw [htk] at this
    rw [hN]; exact this)
  have HTK := Lib.hid htk
  have HRD := Lib.hid (read_any g (some ⟨bi, 0, none⟩) l cc F L HU.out (by omega) (fun h => by cases h) HFA.out.2.1 w2 HD2.out.tab HIR2.out)
  rw [hN] at HRD
  clear hoi hb2 hcc hcm hbi htk hN
  go_wp2_with fail
  rename_i K1 hK1 K2 hK2
  have HKK := Lib.hid hK1
  clear hK1
  refine HRD.out.mono ?_
  intro e w3 hp
  obtain ⟨k3, n3, s3, A3, m3, c3, rfl, ht3, hb3⟩ := read_form hp
  have HT3 := Lib.hid ht3; have HB3 := Lib.hid hb3
  obtain ⟨re, hre⟩ : ∃ re, rdE L l = re := ⟨_, rfl⟩
  have HRE := Lib.hid hre
  rw [hre]
  clear hp ht3 hb3 hre
  go_wp2_with fail
  refine HKK.out _ _ ?_
  have hx4 := Blk.new w3 24 #[.int .i64 k3, .int .i64 n3, .string s3, .slice A3 m3 c3]
  have hb4 := ballocs (Below.refl w3.heap.size w3) (.cells #[.int .i64 k3, .int .i64 n3, .string s3, .slice A3 m3 c3] 24)
  obtain ⟨w4, hw4⟩ : ∃ x, w3.alloc (.cells #[.int .i64 k3, .int .i64 n3, .string s3, .slice A3 m3 c3] 24) = x := ⟨_, rfl⟩
  rw [hw4] at hx4 hb4 ⊢
  obtain ⟨g4, hg4⟩ : ∃ g4, w3.heap.size = g4 := ⟨_, rfl⟩
  rw [hg4] at hx4 ⊢
  have hb24 := fbelow HB3.out hb4
  have HD4 := Lib.hid (HD2.out.below hb24); have HIN4 := Lib.hid (HIN2.out.below hb24); have HX4 := Lib.hid hx4
  have HT4 := Lib.hid (HT3.out.under hb4 (fun b hb => hb.2))
  have HG4 := Lib.hid (show w2.heap.size ≤ g4 from by rw [← hg4]; exact HB3.out.size)
  have HZ34 := Lib.hid hb4.size
  have HRD2 := Lib.hid (rread_any h Al l cl G L HU.out HLC.out HFA.out.2.1 w4 HD4.out.rtab (HRL.out w4 HD4.out.bel))
  rw [HNN.out] at HRD2
  clear hw4 hx4 hb4 hb24 hg4 HKK
  go_wp2_with fail
  rename_i hK2' K3 hK3 K4 hK4
  have HKK := Lib.hid hK3
  clear hK3
  refine HRD2.out.mono ?_
  intro e w5 hp
  obtain ⟨k5, n5, s5, A5, m5, c5, rfl, ht5, hb5⟩ := read_form hp
  have HT5 := Lib.hid ht5; have HB5 := Lib.hid hb5
  rw [HRE.out]
  clear hp ht5 hb5
  go_wp2_with fail
  refine HKK.out _ _ ?_
  have hx6 := Blk.new w5 24 #[.int .i64 k5, .int .i64 n5, .string s5, .slice A5 m5 c5]
  have hb6 := ballocs (Below.refl w5.heap.size w5) (.cells #[.int .i64 k5, .int .i64 n5, .string s5, .slice A5 m5 c5] 24)
  obtain ⟨w6, hw6⟩ : ∃ x, w5.alloc (.cells #[.int .i64 k5, .int .i64 n5, .string s5, .slice A5 m5 c5] 24) = x := ⟨_, rfl⟩
  rw [hw6] at hx6 hb6 ⊢
  obtain ⟨g6, hg6⟩ : ∃ g6, w5.heap.size = g6 := ⟨_, rfl⟩
  rw [hg6] at hx6 ⊢
  have hb46 := fbelow HB5.out hb6
  have HD6 := Lib.hid (HD4.out.below hb46); have HIN6 := Lib.hid (HIN4.out.below hb46); have HX46 := Lib.hid (HX4.out.below hb46 HX4.out.lt); have HX6 := Lib.hid hx6
  have HT46 := Lib.hid (HT4.out.under hb46 (fun b hb => Nat.lt_of_lt_of_le hb.2 HZ34.out))
  have HT6 := Lib.hid (HT5.out.under hb6 (fun b hb => hb.2))
  have HG6 := Lib.hid (show w4.heap.size ≤ g6 from by rw [← hg6]; exact HB5.out.size)
  have HZ36 := Lib.hid (show w3.heap.size ≤ w6.heap.size from Nat.le_trans HZ34.out hb46.size)
  have HZ56 := Lib.hid hb6.size
  have HZ46 := Lib.hid hb46.size
  have HZ24 := Lib.hid (show w2.heap.size ≤ w4.heap.size from Nat.le_trans HB3.out.size HZ34.out)
  have HIR6 := Lib.hid (show Reads w6 w6.heap.size 1 (some ⟨bi, 0, none⟩) l.length (u64s l) from by
    have := (HIN6.out.sub (m := N) (by omega)).reads
    rw [HTK.out] at this
    rw [HNN.out]; exact this)
  have HPA := Lib.hid (part_any g (some ⟨bi, 0, none⟩) l cc F L HU.out (by have := HCC.out; have := HNN.out; omega) (fun h => by cases h) HFA.out.2.1 n HN.out w6 HD6.out.tab HIR6.out)
  rw [HNN.out] at HPA
  clear hw6 hx6 hb6 hb46 hg6 HKK
  go_wp2_with fail
  refine HPA.out.mono ?_
  intro e w7 hp
  obtain ⟨F7, A7, c7, rfl, _, hk7, hF7, hR7, _, _, ho7⟩ := PartPost.open_ ⟨HD6.out.tab, HD6.out.bel, HD6.out.fnew⟩ hp
  obtain ⟨F7', sv, he7, hT7', hs7, hkk7, ho7', hsv7⟩ := hp
  obtain rfl : sv = .slice A7 (partW L l n).length c7 := by simp at he7; exact he7.symm
  have hleft := DT.left HD6.out hT7' hs7 hkk7
  obtain ⟨hA, hBB, hC, hDD, hE⟩ := hleft
  have HGL6 := Lib.hid (RTab.lt_ HD6.out.rtab)
  have HOX := Lib.hid ho7'
  have HOF := Lib.hid hsv7
  have HXG7 := Lib.hid (RO.of_own (F := G) ho7 (fun r hr hg => by have := (ho7.lt r hr).1; have := HGL6.out r hg; omega))
  have hf12 : ∀ b, F b → b < w1.heap.size := HFL.out
  have hg12 : ∀ b, G b → b < w1.heap.size := HGL.out
  have HIN7 := Lib.hid (show RO w7 (fun b => F7' b ∨ G b) (some ⟨bi, 0, none⟩) (N + 3) (u64s (l ++ spW)) from ⟨HIN6.out.1, fun h0 => by
    obtain ⟨ad, e1, e2, e3, e4⟩ := HIN6.out.2 h0
    refine ⟨ad, e1, Nat.lt_of_lt_of_le e2 hk7.size, fun hf => ?_, fun j u hj => (hk7.cell (p := ad.add j) (by rw [block_of_add]; exact e2) (by rw [block_of_add]; exact fun hf => e3 (.inl hf))).trans (e4 j u hj)⟩
    rcases hf with hf | hf
    · rcases hs7 _ hf with h | h
      · exact e3 (.inl h)
      · omega
    · exact e3 (.inr hf)⟩)
  have HXB7 := Lib.hid (HX46.out.keep hk7 (fun hf => by have := hf12 _ hf; have := HG4.out; have := HZ12.out; omega))
  have HX67 := Lib.hid (HX6.out.keep hk7 (fun hf => by have := hf12 _ hf; have := HG6.out; have := HZ24.out; have := HZ12.out; omega))
  have HT47 := Lib.hid (HT46.out.keepF hk7 (fun b hb => Nat.lt_of_lt_of_le hb.2 HZ36.out) (fun b hb hf => by have := hf12 b hf; have := hb.1; have := HZ12.out; omega))
  have HT67 := Lib.hid (HT6.out.keepF hk7 (fun b hb => Nat.lt_of_lt_of_le hb.2 HZ56.out) (fun b hb hf => by have := hf12 b hf; have := hb.1; have := HZ24.out; have := HZ12.out; omega))
  have HZ67 := Lib.hid hk7.size
  have HRT := Lib.hid hBB
  have HRIGHT := Lib.hid (fun G' w8 (hT : RTab w8 G' h L) (hs : ∀ k, G' k → G k ∨ w7.heap.size ≤ k) (hk : Keep G w7 w8) => DT.right hA hC hDD HD6.out.gnew hE hT hs hk)
  have HRPA := Lib.hid (rpart_any h Al l cl G L HU.out HLC.out HFA.out.2.1 n HN.out w7 hBB (HRL.out w7 hE))
  rw [HNN.out] at HRPA
  obtain ⟨M, hM⟩ : ∃ M, (partW L l n).length = M := ⟨_, rfl⟩
  obtain ⟨pe, hpe⟩ : ∃ pe, partE L l n = pe := ⟨_, rfl⟩
  have HM := Lib.hid hM; have HPE := Lib.hid hpe
  rw [hM, hpe]
  clear hk7 hF7 hR7 ho7 he7 hT7' hs7 hkk7 ho7' hsv7 hA hBB hC hDD hE hf12 hg12 hM hpe
  go_wp2_with fail
  refine HRPA.out.mono ?_
  rintro e w8 ⟨G8, A8, c8, rfl, hRT8, hs8, hk8, hY8⟩
  have HD8 := Lib.hid (HRIGHT.out G8 w8 hRT8 hs8 hk8)
  have HS8 := Lib.hid hs8
  have HXX8 := Lib.hid (HXG7.out.step hk8 hs8); have HY8 := Lib.hid hY8
  have hgl : ∀ b, G b → b < w1.heap.size := HGL.out
  have HIN8 := Lib.hid (show RO w8 (fun b => F7' b ∨ G8 b) (some ⟨bi, 0, none⟩) (N + 3) (u64s (l ++ spW)) from ⟨HIN7.out.1, fun h0 => by
    obtain ⟨ad, e1, e2, e3, e4⟩ := HIN7.out.2 h0
    refine ⟨ad, e1, Nat.lt_of_lt_of_le e2 hk8.size, fun hf => ?_, fun j u hj => (hk8.cell (p := ad.add j) (by rw [block_of_add]; exact e2) (by rw [block_of_add]; exact fun hf => e3 (.inr hf))).trans (e4 j u hj)⟩
    rcases hf with hf | hf
    · exact e3 (.inl hf)
    · rcases hs8 _ hf with h | h
      · exact e3 (.inr h)
      · omega⟩)
  have HXB8 := Lib.hid (HXB7.out.keep hk8 (fun hf => by have := hgl _ hf; have := HG4.out; have := HZ12.out; omega))
  have HX68 := Lib.hid (HX67.out.keep hk8 (fun hf => by have := hgl _ hf; have := HG6.out; have := HZ24.out; have := HZ12.out; omega))
  have HT48 := Lib.hid (HT47.out.keepF hk8 (fun b hb => Nat.lt_of_lt_of_le hb.2 (Nat.le_trans HZ36.out HZ67.out)) (fun b hb hf => by have := hgl b hf; have := hb.1; have := HZ12.out; omega))
  have HT68 := Lib.hid (HT67.out.keepF hk8 (fun b hb => Nat.lt_of_lt_of_le hb.2 (Nat.le_trans HZ56.out HZ67.out)) (fun b hb hf => by have := hgl b hf; have := hb.1; have := HZ24.out; have := HZ12.out; omega))
  have HZ78 := Lib.hid hk8.size
  have HOX8 := Lib.hid (ownsRow_keep HOX.out hk8 (fun r hr hg => by have := (HOX.out.lt r hr).1; have := HGL6.out r hg; omega))
  have HSW := Lib.hid (fun (w9 : World) (hb : Below w8.heap.size w8 w9) => sameWords_yes A7 A8 c7 c8 _ _ (partW L l n) w9 (HXX8.out.below hb).reads (HY8.out.below hb).reads (Nat.le_trans (partW_len L l n) (by decide)))
  rw [HM.out] at HSW HOX8
  rw [HM.out, HPE.out]
  obtain ⟨p0, p1, p2, p3, _, _, _, _⟩ := HXB8.out.four
  obtain ⟨q0, q1, q2, q3, _, _, _, _⟩ := HX68.out.four
  clear hRT8 hs8 hk8 hY8 hgl
  have hrr : (re == re) = true := by simp
  have hpp : (pe == pe) = true := by simp
  go_wp2_with fail
  refine (sameTerm_any (rdQ L l) (rdQ L l) _ _ w8 (show TA w8 _ _ from HT48.out.mono (fun b hb => by have := hb.2; have := HZ36.out; have := HZ67.out; have := HZ78.out; omega)) (show TA w8 _ _ from HT68.out.mono (fun b hb => by have := hb.2; have := HZ56.out; have := HZ67.out; have := HZ78.out; omega))).mono ?_
  rintro e w9 ⟨rfl, hb9⟩
  rw [eqT_self]
  have HS9 := Lib.hid (HSW.out w9 hb9)
  have HD9 := Lib.hid (HD8.out.below hb9); have HIN9 := Lib.hid (HIN8.out.below hb9)
  have HO9 := Lib.hid (ownsRow_below HOX8.out hb9 (fun r hr => (HOX8.out.lt r hr).2))
  clear hb9 p0 p1 p2 p3 q0 q1 q2 q3 HSW
  go_wp2_with fail
  refine HS9.out.mono ?_
  rintro e w' ⟨rfl, d1, rfl⟩
  have hb10 := fdrewN (Below.refl w9.heap.size w9) d1
  have HD10 := Lib.hid (HD9.out.below hb10); have HIN10 := Lib.hid (HIN9.out.below hb10)
  have HO10 := Lib.hid (ownsRow_below HO9.out hb10 (fun r hr => (HO9.out.lt r hr).2))
  obtain ⟨w10, hw10⟩ : ∃ x, w9.drewN d1 = x := ⟨_, rfl⟩
  rw [hw10] at HD10 HIN10 HO10 ⊢
  clear hw10 hb10
  go_wp2_with fail
  refine (overW_any _ _ _ _ w10 HO10.out).mono ?_
  rintro e w11 ⟨rfl, hg11⟩
  have hown : ∀ r, (Value.slice A7 M c7).ownBlock = some r → w6.heap.size ≤ r ∧ ¬ F7' r ∧ ¬ G8 r := fun r hr => by
    refine ⟨(HO10.out.lt r hr).1, ?_, ?_⟩
    · have := HOF.out r (by rw [HM.out]; exact hr); exact this
    · intro hg
      have h1 := HOX.out.lt r (by rw [HM.out]; exact hr)
      have h2 := h1.1
      have h3 := h1.2
      rcases HS8.out r hg with h | h
      · have := HGL6.out r h; omega
      · omega
  have hkx := (Keep.refl (fun b => (Value.slice A7 M c7).ownBlock = some b) w10).grown hg11 (fun r hr => .inl hr)
  have hb611 : w.heap.size ≤ w6.heap.size := HD6.out.bel.size
  have HD11 := Lib.hid (show DT w w11 g h F7' G8 L from ⟨HD10.out.tab.keep hkx (fun r hf he => (hown r he).2.1 hf), HD10.out.rtab.keep hkx (fun r hg he => (hown r he).2.2 hg), HD10.out.dis, HD10.out.fnew, HD10.out.gnew, Keep.below HD10.out.bel hkx HD10.out.bel.size (fun i hi he => by have := (hown i he).1; omega)⟩)
  have HIN11 := Lib.hid (show RO w11 (fun b => (Value.slice A7 M c7).ownBlock = some b) (some ⟨bi, 0, none⟩) (N + 3) (u64s (l ++ spW)) from RO.step (F := fun b => (Value.slice A7 M c7).ownBlock = some b) ⟨HIN10.out.1, fun h0 => by
    obtain ⟨ad, e1, e2, e3, e4⟩ := HIN10.out.2 h0
    refine ⟨ad, e1, e2, fun he => ?_, e4⟩
    injection e1 with e1
    subst e1
    have h1 := (hown _ he).1
    have h2 := HBI.out.2
    have h3 := HZ24.out
    have h4 := HZ46.out
    have h5 : bi = (⟨bi, 0, none⟩ : Addr).block := rfl
    omega⟩ hkx (fun k hk => .inl hk))
  clear hown hkx hg11 hb611
  have HKW := Lib.hid (keptW_any bi cc Al cl _ _ l w11 (by rw [HNN.out]; exact HIN11.out.reads) (by rw [HNN.out]; exact HCC.out) HCM.out (HRL.out w11 HD11.out.bel) (by have := HNN.out; omega))
  rw [HNN.out] at HKW
  go_wp2_with fail
  refine HKW.out.mono ?_
  rintro e w' ⟨rfl, d2, rfl⟩
  have HD12 := Lib.hid (HD11.out.below (fdrewN (Below.refl w11.heap.size w11) d2))
  obtain ⟨w12, hw12⟩ : ∃ x, w11.drewN d2 = x := ⟨_, rfl⟩
  rw [hw12] at HD12 ⊢
  clear hw12
  go_wp2_with fail
  refine (sameAtoms_any HD12.out).mono ?_
  rintro e w13 ⟨rfl, hb13⟩
  have HB13 := Lib.hid (fbelow HD12.out.bel hb13)
  clear hb13
  go_wp2_with fail
  refine (awake_any _).mono ?_
  rintro e w14 ⟨rfl, hb14⟩
  have HB14 := Lib.hid (fbelow HB13.out hb14)
  clear hb14
  go_wp2_with fail
  go_ret
  exact ⟨ret1_b rfl, HB14.out⟩
set_option maxRecDepth 100000 in
theorem contract {H : Type} {enc : TypeId × Value → H} (W : World) {base : Nat} {r : Reach} {b : Nat} {hd : Bool} {v0 v1 v2 : Value} {d0 d1 d2 : DataW H} {p0 p1 p2 : List MemPlace}
    (o0 : Value.okWide Try.prog W r b 28 v0) (h0 : DataW.Trod enc Try.prog W base (fun _ => true) hd 28 v0 d0 p0) (o1 : Value.okWide Try.prog W r b 25 v1) (h1 : DataW.Trod enc Try.prog W base (fun _ => true) hd 25 v1 d1 p1)
    (o2 : Value.okWide Try.prog W r b 3 v2) (h2 : DataW.Trod enc Try.prog W base (fun _ => true) hd 3 v2 d2 p2) {Q R : Prop} (_ : Q) (_ : R) :
    Calls Try.prog 6 #[v0, v1, v2] W fun e w' => e = .returned (.bool true) ∧ Below W.heap.size W w' := by
  obtain ⟨A, c, xs, rfl, hr, hx, hl, hc, _⟩ := open_strs_arg Try.underlying28 Try.underlying9 (by kernel_rfl) o0 h0
  obtain ⟨A2, c2, l, rfl, hr2, hU, hl2, hc2, hA2⟩ := open_ints_arg (k := .u64) Try.underlying25 Try.underlying49 (by kernel_rfl) o1 h1
  obtain ⟨n, rfl, _, _, wn⟩ := open_int Try.underlying3 o2 h2
  exact walk A c xs A2 c2 l n W hr hx hl hc hr2 (fun x hx => by have h := hU x hx; simp [Lit.wf, IntKind.min, IntKind.max, IntKind.signed, IntKind.bits] at h; unfold U64; omega) hl2 hc2 hA2 wn

theorem own : ownKnob Try.prog.godebug = none := by kernel_rfl
theorem laidOut : laidOutB Try.prog = true := by kernel_rfl
theorem readable : ∀ t ∈ Try.f6.params.toList, Try.prog.readableRec t = true ∧ t < Try.prog.types.size := by
  rw [show Try.f6.params = #[28, 25, 3] from Try.params6]
  intro t h
  simp only [List.mem_cons, List.not_mem_nil, or_false] at h
  rcases h with rfl | rfl | rfl
  · exact ⟨by kernel_rfl, of_decide_eq_true (by kernel_rfl)⟩
  · exact ⟨by kernel_rfl, of_decide_eq_true (by kernel_rfl)⟩
  · exact ⟨by kernel_rfl, of_decide_eq_true (by kernel_rfl)⟩
set_option maxRecDepth 100000 in
theorem lifted (os : Os) (started : os.Started) (H : Type) (enc : TypeId × Value → H) :
    ReturnsInHanded {} Try.checked os 6 .any (Rows.flatReadsSpec.pre6 enc Try.prog Try.f6 Rows.flatReadsRow.domain false) (Rows.flatReadsSpec.post enc Try.prog Try.f6 false true false false) := by
  refine K.law_lift (C := Try.checked) (b := 4) own started (by kernel_rfl) Try.func6
    (ChangeSpec.witness6 (enc := enc) (C := Try.checked) false ⟨#[], #[.slice none 0 0, .slice none 0 0, .int .i64 0], []⟩ 8 (by kernel_rfl) (by kernel_rfl) (by kernel_rfl) (by kernel_rfl)) laidOut readable rfl rfl Try.underlying4 ?_ ?_
  · intro ds hds
    rw [show Try.f6.params = #[28, 25, 3] from Try.params6] at hds
    match ds, hds with
    | [d0, d1, d2], _ => rfl
  · intro W base args ds p hval hA hlt hsz
    rw [show Try.checked.prog = Try.prog from rfl] at hval hA hsz
    rw [show Try.f6.params = #[28, 25, 3] from Try.params6] at hA hval hsz
    obtain ⟨v0, vs0, d0, ds0, p0, q0, hargs, rfl, rfl, h0, r0⟩ := trodAll_cons hA
    obtain ⟨v1, vs1, d1, ds1, p1, q1, rfl, rfl, rfl, h1, r1⟩ := trodAll_cons r0
    obtain ⟨v2, vs2, d2, ds2, p2, q2, rfl, rfl, rfl, h2, r2⟩ := trodAll_cons r1
    obtain ⟨rfl, rfl, rfl⟩ := trodAll_nil r2
    obtain rfl : args = #[v0, v1, v2] := by cases args; simp_all
    exact contract W (hval 0 28 v0 rfl rfl) h0 (hval 1 25 v1 rfl rfl) h1 (hval 2 3 v2 rfl rfl) h2 (fun x hx => hlt x hx) hsz

theorem over : Rows.flatReadsRow.holds Try.pinned (OpenSpec.ofChange Rows.flatReadsSpec) :=
  OpenClaim.holds_of_wide 6 Try.f6 rfl rfl rfl rfl rfl rfl rfl ⟨rfl, rfl, rfl, rfl, rfl⟩ rfl rfl rfl rfl rfl (by kernel_rfl) Try.func6 (by kernel_rfl)
    (of_decide_eq_true (by kernel_rfl)) (by unfold Func.isWrapper; rw [if_neg (of_decide_eq_false (by kernel_rfl))]; exact ⟨rfl, rfl⟩)
    (fun os started H enc _ => lifted os started H enc)

/-- THE STATEMENT -/
theorem proved : Rows.FlatReadsSaid := over
#print axioms proved
end Go.Proofs.Ytfcialleekfjmaa.FlatReads
