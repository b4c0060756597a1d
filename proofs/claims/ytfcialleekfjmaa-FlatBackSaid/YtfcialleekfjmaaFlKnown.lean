/- tenurelaw07.FlatKnown: the chapter's examples, walked. -/
import Derived.Test.YtfcialleekfjmaaFlPart
import Derived.Test.YtfcialleekfjmaaFlVal
namespace Go.Proofs.Ytfcialleekfjmaa.Fl
open Go.RowKit K At Wd
set_option linter.unusedVariables false
set_option linter.unusedSimpArgs false

theorem ro_lit {w : World} {F : Nat → Prop} {L : List ByteArray} {g : Nat} (hT : Tab w F g L) (l : List Int) (cs : Array Value) (hcs : cs.toList = u64s l) : RO (w.alloc (.cells cs 49)) F (some ⟨w.heap.size, 0, none⟩) l.length (u64s l) := by
  have h := RO.blk (F := F) (Blk.new w 49 cs) (fun h => by have := Tab.lt_ hT _ h; omega)
  rw [hcs] at h
  have : cs.size = l.length := by rw [← Array.length_toList, hcs]; simp [u64s]
  rwa [this] at h
set_option maxRecDepth 100000 in
set_option maxHeartbeats 16000000 in
theorem known_any (w : World) : Calls Try.prog 4 #[] w fun e w' => e = .returned (.bool true) ∧ Below w.heap.size w w' := by
  have HP := Lib.hid (fun w => pair_any w)
  have HN := Lib.hid (fun w => new_any w)
  have HI := Lib.hid (fun n w => num_val n w)
  have HO := Lib.hid (fun w => none_val w)
  have HAW := Lib.hid (fun w => awake_any w)
  go_enter Try.func4, Try.ntmps4
  go_wp2_with fail
  refine (HN.out _).mono ?_
  rintro e w1 ⟨g, rfl, hT1, hb1⟩
  have HE1 := Lib.hid (show KE w w1 g (fun k => w.heap.size ≤ k ∧ k < w1.heap.size) [] from ⟨hT1, hb1, fun b h => h.1⟩)
  clear hT1 hb1
  go_wp2_with fail
  rename_i K1 hK1 K2 hK2
  have HKK := Lib.hid hK1
  clear hK1
  refine (HP.out _).mono ?_
  rintro e w2 ⟨A, b, rfl, ht2, hbb, hbk2, hb2⟩
  have HTP := Lib.hid ht2; have HBK := Lib.hid hbk2; have HBB := Lib.hid hbb; have HB2 := Lib.hid hb2
  clear ht2 hbk2 hb2 hbb
  go_wp2_with fail
  refine HKK.out _ _ ?_
  have ht4 := Blk.new w2 24 #[.int .i64 7, .int .i64 0, .string ⟨#[]⟩, .slice A 2 2]
  have hb3 := ballocs (Below.refl w2.heap.size w2) (.cells #[.int .i64 7, .int .i64 0, .string ⟨#[]⟩, .slice A 2 2] 24)
  obtain ⟨w3, hw3⟩ : ∃ x, w2.alloc (.cells #[.int .i64 7, .int .i64 0, .string ⟨#[]⟩, .slice A 2 2] 24) = x := ⟨_, rfl⟩
  rw [hw3] at ht4 hb3 ⊢
  obtain ⟨gt, hgt⟩ : ∃ gt, w2.heap.size = gt := ⟨_, rfl⟩
  have hz2 := HB2.out.size
  rw [hgt] at ht4 ⊢
  have HE3 := Lib.hid (HE1.out.below (fbelow HB2.out hb3))
  have HX3 := Lib.hid (RO.blk (F := fun k => w.heap.size ≤ k ∧ k < w1.heap.size) ht4 (fun h => by have := h.2; omega))
  have HW3 := Lib.hid (RO.blk (F := fun k => w.heap.size ≤ k ∧ k < w1.heap.size) (HBK.out.below hb3 HBK.out.lt) (fun h => by have := h.2; have := HBB.out; omega))
  have HT3 := Lib.hid (HTP.out.under hb3 (fun b hb => hb.2))
  have HZ23 := Lib.hid hb3.size
  clear hw3 ht4 hb3 hgt hz2 HBK HTP
  go_wp2_with fail
  refine (HI.out 5 _).mono ?_
  rintro e w4 ⟨rfl, hb4⟩
  have HE4 := Lib.hid (HE3.out.below hb4); have HX4 := Lib.hid (HX3.out.below hb4); have HW4 := Lib.hid (HW3.out.below hb4)
  have HT4 := Lib.hid (HT3.out.under hb4 (fun b hb => Nat.lt_of_lt_of_le hb.2 HZ23.out)); have HZ24 := Lib.hid (Nat.le_trans HZ23.out hb4.size)
  clear hb4
  go_wp2_with fail
  refine (flatten_any g [] (tnum 5) _ w4 _ (fun _ => False) HE4.out.tab (num_leaf w4 5 (by decide)) (fun b h => h.elim) (Nat.le_trans (chk_nodes chk_num5) (by decide))).mono ?_
  intro e w5 hp
  obtain ⟨F5, Ax, cx, rfl, hE5, hk5, hF5, hRx, _, _, hox⟩ := FlatPost.open_ HE4.out hp
  rw [flW_num5] at hRx ⊢
  rw [flE_num5]
  rw [flL_num5] at hE5
  have HE5 := Lib.hid hE5; have HX5 := Lib.hid (HX4.out.step hk5 hF5); have HW5 := Lib.hid (HW4.out.step hk5 hF5); have HRX5 := Lib.hid hRx
  have HT5 := Lib.hid (HT4.out.keepF hk5 (fun b hb => Nat.lt_of_lt_of_le hb.2 HZ24.out) (fun b hb h => by have := hb.1; have := h.2; omega))
  have HZ25 := Lib.hid (Nat.le_trans HZ24.out hk5.size)
  have HF5 := Lib.hid (show ∀ b, Fr w1 w2 b → ¬ F5 b from fun b hb h => by
    rcases hF5 b h with h | h
    · have := hb.1; have := h.2; omega
    · have := hb.2; have := HZ24.out; omega)
  clear hp hE5 hk5 hF5 hRx hox
  have x0 := HX5.out.cell (j := 0) rfl; have x1 := HX5.out.cell (j := 1) rfl; have x2 := HX5.out.cell (j := 2) rfl; have x3 := HX5.out.cell (j := 3) rfl
  go_wp2_with fail
  refine (flatten_any g [] pairT _ w5 F5 (Fr w1 w2) HE5.out.tab HT5.out (fun b hb => ⟨Nat.lt_of_lt_of_le hb.2 HZ25.out, HF5.out b hb⟩) (Nat.le_trans (chk_nodes chk_pair) (by decide))).mono ?_
  intro e w6 hp
  obtain ⟨F6, Ay, cy, rfl, hE6, hk6, hF6, hRy, _, _, hoy⟩ := FlatPost.open_ HE5.out hp
  rw [flW_pair] at hRy ⊢
  rw [flE_pair]
  rw [flL_pair] at hE6
  have HE6 := Lib.hid hE6; have HW6 := Lib.hid (HW5.out.step hk6 hF6); have HRX6 := Lib.hid (HRX5.out.step hk6 hF6); have HRY6 := Lib.hid hRy
  clear hp hE6 hk6 hF6 hRy hoy x0 x1 x2 x3
  go_wp2_with fail
  refine (HI.out 1 _).mono ?_
  rintro e w7 ⟨rfl, hb7⟩
  have HE7 := Lib.hid (HE6.out.below hb7); have HW7 := Lib.hid (HW6.out.below hb7); have HRX7 := Lib.hid (HRX6.out.below hb7); have HRY7 := Lib.hid (HRY6.out.below hb7)
  clear hb7
  go_wp2_with fail
  have hrow := lit_rowF (vs := [_]) (.cons (num_leaf w7 1 (F := fun _ => False) (by decide)) .nil) (fun b h => h.elim) (by simp [maxLen]) #[.int .i64 1, .int .i64 1, .string ⟨#[]⟩, .slice none 0 0] rfl
  have hb8 := ballocs (Below.refl w7.heap.size w7) (.cells #[.int .i64 1, .int .i64 1, .string ⟨#[]⟩, .slice none 0 0] 24)
  have hz8 : (w7.alloc (.cells #[.int .i64 1, .int .i64 1, .string ⟨#[]⟩, .slice none 0 0] 24)).heap.size = w7.heap.size + 1 := by simp
  obtain ⟨w8, hw8⟩ : ∃ x, w7.alloc (.cells #[.int .i64 1, .int .i64 1, .string ⟨#[]⟩, .slice none 0 0] 24) = x := ⟨_, rfl⟩
  rw [hw8] at hrow hb8 hz8 ⊢
  obtain ⟨g7, hg7⟩ : ∃ g7, w7.heap.size = g7 := ⟨_, rfl⟩
  rw [hg7] at hrow hz8 ⊢
  have HG7 := Lib.hid (show ∀ b, F6 b → b < g7 from fun b h => by rw [← hg7]; exact Tab.lt_ HE7.out.tab b h)
  have HE8 := Lib.hid (HE7.out.below hb8); have HW8 := Lib.hid (HW7.out.below hb8); have HRX8 := Lib.hid (HRX7.out.below hb8); have HRY8 := Lib.hid (HRY7.out.below hb8)
  have HROW := Lib.hid hrow; have HZ8 := Lib.hid hz8
  clear hw8 hb8 hrow hz8 hg7
  refine (HO.out _).mono ?_
  rintro e w9 ⟨rfl, hb9⟩
  have HE9 := Lib.hid (HE8.out.below hb9); have HW9 := Lib.hid (HW8.out.below hb9); have HRX9 := Lib.hid (HRX8.out.below hb9); have HRY9 := Lib.hid (HRY8.out.below hb9)
  have HROW9 := Lib.hid (HROW.out.keep (w' := w9) (fun p hp => hb9.cell (by have := HZ8.out; rcases hp with hp | hp; exact hp.elim; omega)))
  have HZ9 := Lib.hid (show g7 + 1 ≤ w9.heap.size from by have := HZ8.out; have := hb9.size; omega)
  clear hb9
  go_wp2_with fail
  refine (pairs_at _ [tnum 1] tnil (some ⟨g7, 0, none⟩) 1 _ w9 (fun b hb => by have := HZ9.out; rcases hb with hb | hb; exact hb.elim; omega) HROW9.out (nil_leaf w9) (by decide)).mono ?_
  rintro e w10 ⟨v, rfl, htv, hb10⟩
  have HE10 := Lib.hid (HE9.out.below hb10); have HW10 := Lib.hid (HW9.out.below hb10); have HRX10 := Lib.hid (HRX9.out.below hb10); have HRY10 := Lib.hid (HRY9.out.below hb10)
  have HTV := Lib.hid (show TAt w10 (fun b => b < w10.heap.size ∧ ((False ∨ b = g7) ∨ w9.heap.size ≤ b)) consT v from htv)
  clear hb10 htv
  go_wp2_with fail
  refine (flatten_any g [⟨#[97]⟩] consT _ w10 F6 _ HE10.out.tab HTV.out (fun b hb => ⟨hb.1, fun h => by
    have := HG7.out b h
    have := HZ9.out
    rcases hb.2 with (h | h) | h
    · exact h.elim
    · omega
    · omega⟩) (Nat.le_trans (chk_nodes chk_cons) (by decide))).mono ?_
  intro e w11 hp
  obtain ⟨F7, Az, cz, rfl, hE11, hk11, hF11, hRz, _, _, hoz⟩ := FlatPost.open_ HE10.out hp
  rw [flW_cons] at hRz ⊢
  rw [flE_cons]
  rw [flL_cons] at hE11
  have HE11 := Lib.hid hE11; have HW11 := Lib.hid (HW10.out.step hk11 hF11); have HRX11 := Lib.hid (HRX10.out.step hk11 hF11); have HRY11 := Lib.hid (HRY10.out.step hk11 hF11); have HRZ11 := Lib.hid hRz
  clear hp hE11 hk11 hF11 hRz hoz
  go_wp2_with fail
  have hro := ro_lit HE11.out.tab [81] #[.int .u64 81] rfl
  have hb12 := ballocs (Below.refl w11.heap.size w11) (.cells #[.int .u64 81] 49)
  obtain ⟨w12, hw12⟩ : ∃ x, w11.alloc (.cells #[.int .u64 81] 49) = x := ⟨_, rfl⟩
  rw [hw12] at hro hb12 ⊢
  have HE12 := Lib.hid (HE11.out.below hb12); have HW12 := Lib.hid (HW11.out.below hb12); have HRY12 := Lib.hid (HRY11.out.below hb12); have HRZ12 := Lib.hid (HRZ11.out.below hb12)
  have HSX := Lib.hid (sameWords_yes Ax (some ⟨w11.heap.size, 0, none⟩) cx 1 _ _ [81] w12 (HRX11.out.below hb12).reads hro.reads (by decide))
  clear hw12 hro hb12
  refine HSX.out.mono ?_
  rintro e w' ⟨rfl, n1, rfl⟩
  have hb13 := fdrewN (Below.refl w12.heap.size w12) n1
  obtain ⟨w13, hw13⟩ : ∃ x, w12.drewN n1 = x := ⟨_, rfl⟩
  rw [hw13] at hb13 ⊢
  have HE13 := Lib.hid (HE12.out.below hb13); have HW13 := Lib.hid (HW12.out.below hb13); have HRY13 := Lib.hid (HRY12.out.below hb13); have HRZ13 := Lib.hid (HRZ12.out.below hb13)
  clear hw13 hb13
  go_wp2_with fail
  refine (sameWords_yes Ay (some ⟨b, 0, none⟩) cy 4 _ _ pairL w13 HRY13.out.reads HW13.out.reads (by decide)).mono ?_
  rintro e w' ⟨rfl, n2, rfl⟩
  have hb14 := fdrewN (Below.refl w13.heap.size w13) n2
  obtain ⟨w14, hw14⟩ : ∃ x, w13.drewN n2 = x := ⟨_, rfl⟩
  rw [hw14] at hb14 ⊢
  have HE14 := Lib.hid (HE13.out.below hb14); have HW14 := Lib.hid (HW13.out.below hb14); have HRZ14 := Lib.hid (HRZ13.out.below hb14)
  clear hw14 hb14
  go_wp2_with fail
  have hro := ro_lit HE14.out.tab [25, 17, 8] #[.int .u64 25, .int .u64 17, .int .u64 8] rfl
  have hb15 := ballocs (Below.refl w14.heap.size w14) (.cells #[.int .u64 25, .int .u64 17, .int .u64 8] 49)
  obtain ⟨w15, hw15⟩ : ∃ x, w14.alloc (.cells #[.int .u64 25, .int .u64 17, .int .u64 8] 49) = x := ⟨_, rfl⟩
  rw [hw15] at hro hb15 ⊢
  have HE15 := Lib.hid (HE14.out.below hb15); have HW15 := Lib.hid (HW14.out.below hb15)
  have HSZ := Lib.hid (sameWords_yes Az (some ⟨w14.heap.size, 0, none⟩) cz 3 _ _ [25, 17, 8] w15 (HRZ14.out.below hb15).reads hro.reads (by decide))
  clear hw15 hro hb15
  refine HSZ.out.mono ?_
  rintro e w' ⟨rfl, n3, rfl⟩
  have hb16 := fdrewN (Below.refl w15.heap.size w15) n3
  obtain ⟨w16, hw16⟩ : ∃ x, w15.drewN n3 = x := ⟨_, rfl⟩
  rw [hw16] at hb16 ⊢
  have HE16 := Lib.hid (HE15.out.below hb16); have HW16 := Lib.hid (HW15.out.below hb16)
  clear hw16 hb16
  go_wp2_with fail
  refine (read_any g (some ⟨b, 0, none⟩) [23, 42, 2] 4 F7 [⟨#[97]⟩] (fun x hx => pair_U x (by simp [pairL] at hx ⊢; omega)) (by decide) (fun h => by cases h) (by decide) w16 HE16.out.tab (HW16.out.sub (m := 3) (by decide)).reads).mono ?_
  rintro e w17 ⟨hb17, (⟨t, v', _, _, hE, _⟩ | ⟨_, rfl⟩)⟩
  · rw [rdE_short []] at hE; cases hE
  rw [rdE_short []]
  have HE17 := Lib.hid (HE16.out.below hb17); have HW17 := Lib.hid (HW16.out.below hb17)
  clear hb17
  go_wp2_with fail
  have hb18 := ballocs (Below.refl w17.heap.size w17) (.cells #[.int .i64 0, .int .i64 0, .string ⟨#[]⟩, .slice none 0 0] 24)
  obtain ⟨w18, hw18⟩ : ∃ x, w17.alloc (.cells #[.int .i64 0, .int .i64 0, .string ⟨#[]⟩, .slice none 0 0] 24) = x := ⟨_, rfl⟩
  have hz18 : w18.heap.size = w17.heap.size + 1 := by rw [← hw18]; simp
  rw [hw18] at hb18 ⊢
  have HE18 := Lib.hid (HE17.out.below hb18); have HW18 := Lib.hid (HW17.out.below hb18)
  have hro := ro_lit HE18.out.tab [25, 17, 8, 8] #[.int .u64 25, .int .u64 17, .int .u64 8, .int .u64 8] rfl
  have hb19 := ballocs (Below.refl w18.heap.size w18) (.cells #[.int .u64 25, .int .u64 17, .int .u64 8, .int .u64 8] 49)
  obtain ⟨w19, hw19⟩ : ∃ x, w18.alloc (.cells #[.int .u64 25, .int .u64 17, .int .u64 8, .int .u64 8] 49) = x := ⟨_, rfl⟩
  rw [hw19] at hro hb19 ⊢
  have HE19 := Lib.hid (HE18.out.below hb19); have HW19 := Lib.hid (HW18.out.below hb19)
  rw [hz18] at hro
  have HRO := Lib.hid hro
  clear hw18 hw19 hro hb18 hb19 hz18
  refine (read_any g (some ⟨w17.heap.size + 1, 0, none⟩) [25, 17, 8, 8] 4 F7 [⟨#[97]⟩] (fun x hx => by unfold U64; simp at hx; omega) (by decide) (fun h => by cases h) (by decide) w19 HE19.out.tab HRO.out.reads).mono ?_
  rintro e w20 ⟨hb20, (⟨t, v', _, _, hE, _⟩ | ⟨_, rfl⟩)⟩
  · rw [rdE_over] at hE; cases hE
  rw [rdE_over]
  have hb21 := fbelow hb20 (ballocs (Below.refl w20.heap.size w20) (.cells #[.int .i64 0, .int .i64 0, .string ⟨#[]⟩, .slice none 0 0] 24))
  have HE21 := Lib.hid (HE19.out.below hb21); have HW21 := Lib.hid (HW19.out.below hb21)
  clear hb20 hb21
  go_wp2_with fail
  obtain ⟨w21, hw21⟩ : ∃ x, w20.alloc (.cells #[.int .i64 0, .int .i64 0, .string ⟨#[]⟩, .slice none 0 0] 24) = x := ⟨_, rfl⟩
  rw [hw21] at HE21 HW21 ⊢
  clear hw21
  refine (part_any g (some ⟨b, 0, none⟩) pairL 4 F7 [⟨#[97]⟩] pair_U (by decide) (fun h => by cases h) (by decide) 1 (by decide) w21 HE21.out.tab HW21.out.reads).mono ?_
  intro e w22 hp
  obtain ⟨F8, Ap, cp, rfl, hE22, hk22, hF22, hRp, _, _, hop⟩ := PartPost.open_ HE21.out hp
  rw [partW_1] at hRp ⊢
  rw [partE_1]
  have HE22 := Lib.hid hE22; have HW22 := Lib.hid (HW21.out.step hk22 hF22); have HRP22 := Lib.hid hRp
  clear hp hE22 hk22 hF22 hRp hop
  go_wp2_with fail
  refine (part_any g (some ⟨b, 0, none⟩) pairL 4 F8 [⟨#[97]⟩] pair_U (by decide) (fun h => by cases h) (by decide) 3 (by decide) w22 HE22.out.tab HW22.out.reads).mono ?_
  intro e w23 hp
  obtain ⟨F9, Aq, cq, rfl, hE23, hk23, hF23, hRq, _, _, hoq⟩ := PartPost.open_ HE22.out hp
  rw [partE_3]
  have HE23 := Lib.hid hE23; have HRP23 := Lib.hid (HRP22.out.step hk23 hF23)
  clear hp hE23 hk23 hF23 hRq hoq
  obtain ⟨N, hN⟩ : ∃ N, (partW [⟨#[97]⟩] pairL 3).length = N := ⟨_, rfl⟩
  rw [hN]
  clear hN
  go_wp2_with fail
  refine (HAW.out _).mono ?_
  rintro e w24 ⟨rfl, hb24⟩
  have HE24 := Lib.hid (HE23.out.below hb24); have HRP24 := Lib.hid (HRP23.out.below hb24)
  clear hb24
  go_wp2_with fail
  have hro := ro_lit HE24.out.tab [2] #[.int .u64 2] rfl
  have hb25 := ballocs (Below.refl w24.heap.size w24) (.cells #[.int .u64 2] 49)
  have HSP := Lib.hid (sameWords_yes Ap (some ⟨w24.heap.size, 0, none⟩) cp 1 _ _ [2] _ (HRP24.out.below hb25).reads hro.reads (by decide))
  have HEND := Lib.hid (fun n => fdrewN (fbelow HE24.out.bel hb25) n)
  clear hro hb25
  refine HSP.out.mono ?_
  rintro e w' ⟨rfl, n4, rfl⟩
  have HEN := Lib.hid (HEND.out n4)
  clear HEND
  go_wp2_with fail
  go_ret
  exact ⟨ret1_b rfl, HEN.out⟩
end Go.Proofs.Ytfcialleekfjmaa.Fl
