/- Plain: the values of the chapter's examples. tenurelaw07.pair and awake. -/
import Derived.Test.YtfcialleekfjmaaFlPart
import Derived.Test.YtfcialleekfjmaaLeaf
import Derived.Test.YtfcialleekfjmaaSmall
import Derived.Test.YtfcialleekfjmaaTmSame
import Derived.Test.YtfcialleekfjmaaSameWords
namespace Go.Proofs.Ytfcialleekfjmaa.Fl
open Go.RowKit K At Wd
set_option linter.unusedVariables false
set_option linter.unusedSimpArgs false
def pairT : Tm := ttup [tsym ⟨#[97]⟩, tnum 1]
def consT : Tm := tcons (tnum 1) tnil
def pairL : List Int := [23, 42, 2, 17]
theorem snd_pair : sndL (subs pairT) = true := by
  unfold pairT ttup tsym tnum
  simp [subs_eq, subsL_cons, subsL_nil, sndL, soundB_mk]
  decide
theorem wds_pair : wds pairT = 4 := by
  unfold pairT ttup tsym tnum
  simp [wds_mk, wdsL_cons, wdsL_nil, ownN, hasB]
theorem chk_pair : chk pairT = 0 := by rw [chk_eq, if_pos snd_pair, wds_pair]; rfl
theorem nums_pair : nums pairT [] = (true, [⟨#[97]⟩]) := by
  unfold pairT ttup tsym tnum
  simp only [nums_mk, numsL_cons, numsL_nil]
  rfl
theorem flE_pair : flE [] pairT = 0 := by unfold flE; rw [if_pos chk_pair, nums_pair]; rfl
theorem flL_pair : flL [] pairT = [⟨#[97]⟩] := by unfold flL; rw [if_pos chk_pair, nums_pair]
theorem flat_pair : Fl.flat (ix [⟨#[97]⟩]) pairT = pairL := by
  unfold Fl.flat pairT ttup tsym tnum
  simp only [ownW_mk, lay_mk, layP_cons, layP_nil]
  rfl
theorem flW_pair : flW [] pairT = pairL := by unfold flW; rw [if_pos flE_pair, nums_pair]; exact flat_pair
theorem rdF_pair : rdF [⟨#[97]⟩] pairL = some pairT := by rfl
theorem rdE_pair : rdE [⟨#[97]⟩] pairL = 0 := by unfold rdE; rw [if_neg (by decide), rdF_pair]; rfl
/-! FlatKnown's further values. -/
theorem chk_num5 : chk (tnum 5) = 0 := by
  rw [chk_eq]
  unfold tnum
  rw [show sndL (subs (.mk 1 5 .empty [])) = true from by simp [subs_eq, subsL_nil, sndL, soundB_mk]; decide, wds_mk]
  rfl
theorem nums_num5 : nums (tnum 5) [] = (true, []) := by unfold tnum; rw [nums_mk, if_neg (by decide), numsL_nil]
theorem flE_num5 : flE [] (tnum 5) = 0 := by unfold flE; rw [if_pos chk_num5, nums_num5]; rfl
theorem flL_num5 : flL [] (tnum 5) = [] := by unfold flL; rw [if_pos chk_num5, nums_num5]
theorem flW_num5 : flW [] (tnum 5) = [81] := by
  unfold flW
  rw [if_pos flE_num5, nums_num5]
  unfold Fl.flat tnum
  simp only [ownW_mk, lay_mk]
  rfl
theorem snd_cons : sndL (subs consT) = true := by
  unfold consT tcons tnum tnil
  simp [subs_eq, subsL_cons, subsL_nil, sndL, soundB_mk]
  decide
theorem wds_cons : wds consT = 3 := by
  unfold consT tcons tnum tnil
  simp [wds_mk, wdsL_cons, wdsL_nil, ownN, hasB]
theorem chk_cons : chk consT = 0 := by rw [chk_eq, if_pos snd_cons, wds_cons]; rfl
theorem nums_cons (L : List ByteArray) : nums consT L = (true, L) := by
  unfold consT tcons tnum tnil
  simp [nums_mk, numsL_cons, numsL_nil]
theorem flE_cons (L : List ByteArray) : flE L consT = 0 := by unfold flE; rw [if_pos chk_cons, nums_cons]; rfl
theorem flL_cons (L : List ByteArray) : flL L consT = L := by unfold flL; rw [if_pos chk_cons, nums_cons]
theorem flW_cons (L : List ByteArray) : flW L consT = [25, 17, 8] := by
  unfold flW
  rw [if_pos (flE_cons L), nums_cons]
  unfold Fl.flat consT tcons tnum tnil
  simp only [ownW_mk, lay_mk, layP_cons, layP_nil]
  rfl
theorem rdE_short (L : List ByteArray) : rdE [⟨#[97]⟩] [23, 42, 2] = 4 := rdE_no (by decide) (by rfl)
theorem rdE_over : rdE [⟨#[97]⟩] [25, 17, 8, 8] = 4 := rdE_no (by decide) (by rfl)
theorem snd_a : sndL (subs (tsym ⟨#[97]⟩)) = true := by
  unfold tsym
  simp [subs_eq, subsL_cons, subsL_nil, sndL, soundB_mk]
  decide
theorem chk_a : chk (tsym ⟨#[97]⟩) = 0 := by rw [chk_eq, if_pos snd_a]; unfold tsym; rw [wds_mk]; rfl
theorem partO_1 : partO [⟨#[97]⟩] pairL 1 = some (tsym ⟨#[97]⟩) := by unfold partO; rw [rdF_pair]; rfl
theorem partO_3 : partO [⟨#[97]⟩] pairL 3 = none := by unfold partO; rw [rdF_pair]; rfl
theorem nums_a : nums (tsym ⟨#[97]⟩) [⟨#[97]⟩] = (true, [⟨#[97]⟩]) := by unfold tsym; rw [nums_mk, if_pos rfl]; rfl
theorem flE_a : flE [⟨#[97]⟩] (tsym ⟨#[97]⟩) = 0 := by unfold flE; rw [if_pos chk_a, nums_a]; rfl
theorem partE_1 : partE [⟨#[97]⟩] pairL 1 = 0 := by unfold partE; rw [if_pos rdE_pair, partO_1]; exact flE_a
theorem partE_3 : partE [⟨#[97]⟩] pairL 3 = 2 := by unfold partE; rw [if_pos rdE_pair, partO_3]
theorem partW_1 : partW [⟨#[97]⟩] pairL 1 = [2] := by
  unfold partW
  rw [if_pos rdE_pair, partO_1]
  show flW [⟨#[97]⟩] (tsym ⟨#[97]⟩) = [2]
  unfold flW
  rw [if_pos flE_a, nums_a]
  unfold Fl.flat tsym
  simp only [ownW_mk, lay_mk]
  rfl
theorem pair_U : ∀ x ∈ pairL, U64 x := fun x hx => by unfold U64; simp [pairL] at hx; omega
/-- What pair answers. -/
def PairPost (w : World) (e : Ending) (w' : World) : Prop := ∃ A b, e = .returned (.tuple #[.agg #[.int .i64 7, .int .i64 0, .string ⟨#[]⟩, .slice A 2 2], .slice (some ⟨b, 0, none⟩) 4 4]) ∧ TAt w' (Fr w w') pairT (.agg #[.int .i64 7, .int .i64 0, .string ⟨#[]⟩, .slice A 2 2]) ∧ w.heap.size ≤ b ∧ Blk w' b 49 #[.int .u64 23, .int .u64 42, .int .u64 2, .int .u64 17] ∧ Below w.heap.size w w'
theorem PairPost.words {w' : World} {b : Nat} (h : Blk w' b 49 #[.int .u64 23, .int .u64 42, .int .u64 2, .int .u64 17]) : Reads w' w'.heap.size 1 (some ⟨b, 0, none⟩) 4 (u64s pairL) := by
  refine ⟨rfl, fun _ => ⟨_, rfl, h.lt, fun j u hj => ?_⟩⟩
  rw [show (⟨b, 0, none⟩ : Addr).add j = ⟨b, j, none⟩ from by simp [Addr.add]; exact fun h => h.symm, h.cell]
  rcases j with _ | _ | _ | _ | j
  · exact hj
  · exact hj
  · exact hj
  · exact hj
  · simp [u64s, pairL] at hj
set_option maxRecDepth 100000 in
set_option maxHeartbeats 8000000 in
theorem pair_any (w : World) : Calls Try.prog 15 #[] w (PairPost w) := by
  have HS := Lib.hid (fun w => sym_val ⟨#[97]⟩ w)
  have HN := Lib.hid (fun w => num_val 1 w)
  have HT := Lib.hid (fun A m c w => tup_val A m c w)
  have hz := Blk.new w 24 tz
  have hb0 := ballocs (Below.refl w.heap.size w) (.cells tz 24)
  have HZ := Lib.hid hz; have HB0 := Lib.hid hb0
  clear hz hb0
  go_enter Try.func15, Try.ntmps15
  go_wp2_with fail
  obtain ⟨w0, hw0⟩ : ∃ x, w.alloc (.cells #[.int .i64 0, .int .i64 0, .string ⟨#[]⟩, .slice none 0 0] 24) = x := ⟨_, rfl⟩
  rw [hw0] at HZ HB0 ⊢
  clear hw0
  refine (HS.out _).mono ?_
  rintro e w1 ⟨rfl, hb1⟩
  have HB1 := Lib.hid (fbelow HB0.out hb1); have HZ1 := Lib.hid (HZ.out.below hb1 HZ.out.lt)
  clear hb1
  go_wp2_with fail
  refine (HN.out _).mono ?_
  rintro e w2 ⟨rfl, hb2⟩
  have HB2 := Lib.hid (fbelow HB1.out hb2); have HZ2 := Lib.hid (HZ1.out.below hb2 HZ1.out.lt)
  clear hb2
  go_wp2_with fail
  have hrow := lit2 (w := w2) (F := fun _ => False) (sym_leaf w2 ⟨#[97]⟩ (by decide)) (num_leaf w2 1 (by decide)) (fun b h => h.elim)
  refine (HT.out _ _ _ _).mono ?_
  rintro e w4 ⟨rfl, hb4⟩
  have hb24 := ballocs (Below.refl w2.heap.size w2) (.cells #[.int .i64 2, .int .i64 0, .string ⟨#[97]⟩, .slice none 0 0, .int .i64 1, .int .i64 1, .string ⟨#[]⟩, .slice none 0 0] 24)
  have hlz := HZ2.out.lt
  have HT4 := Lib.hid (hrow.keep (w' := w4) (fun p hp => hb4.cell (by rcases hp with hp | hp; exact hp.elim; simp only [World.size_alloc]; omega)))
  have HB4 := Lib.hid (fbelow (fbelow HB2.out hb24) hb4)
  have HZ4 := Lib.hid ((HZ2.out.below hb24 hlz).below hb4 (by simp only [World.size_alloc]; omega))
  obtain ⟨z0, z1, z2, z3, y0, y1, y2, y3⟩ := HZ4.out.four
  have HL2 := Lib.hid (show w.heap.size < w2.heap.size ∧ w2.heap.size < w4.heap.size from ⟨hlz, by have := hb4.size; simp only [World.size_alloc] at this; omega⟩)
  have hl4 : w.heap.size < w4.heap.size := by have := HL2.out; omega
  clear hb4 hb24 hrow hlz
  go_wp2_with fail
  obtain ⟨r0, r1, r2, r3, _, _, _, _⟩ := ((put4_blk HZ4.out (.int .i64 7) (.int .i64 0) (.string ⟨#[]⟩) (.slice (some ⟨w2.heap.size, 0, none⟩) 2 2)).alloc (.cells #[.int .u64 23, .int .u64 42, .int .u64 2, .int .u64 17] 49)).four
  have hbk := Blk.new (put4 w4 w.heap.size (.int .i64 7) (.int .i64 0) (.string ⟨#[]⟩) (.slice (some ⟨w2.heap.size, 0, none⟩) 2 2)) 49 #[.int .u64 23, .int .u64 42, .int .u64 2, .int .u64 17]
  rw [put4_size] at hbk
  have hl2 := HL2.out
  refine bodyPost_ret (v := .tuple #[.agg #[.int .i64 7, .int .i64 0, .string ⟨#[]⟩, .slice (some ⟨w2.heap.size, 0, none⟩) 2 2], .slice (some ⟨w4.heap.size, 0, none⟩) 4 4]) (by unfold put4 at r0 r1 r2 r3; simp [results, Try.results15, go_sem, r0, r1, r2, r3]) rfl ⟨_, _, rfl, ?_, Nat.le_of_lt hl4, hbk, ballocs (put4_below HB4.out (Nat.le_refl _) _ _ _ _) _⟩
  refine (TAt.of (t := pairT) (A := some ⟨w2.heap.size, 0, none⟩) (c := 2) ⟨by decide, by decide, by decide, by decide, by decide, fun h => by cases h⟩ (((HT4.out.keep (w' := put4 w4 w.heap.size (.int .i64 7) (.int .i64 0) (.string ⟨#[]⟩) (.slice (some ⟨w2.heap.size, 0, none⟩) 2 2)) (fun p hp => put4_cell _ _ _ _ _ _ p (fun e => by rcases hp with hp | hp; exact hp.elim; omega))).keep (w' := (put4 w4 w.heap.size (.int .i64 7) (.int .i64 0) (.string ⟨#[]⟩) (.slice (some ⟨w2.heap.size, 0, none⟩) 2 2)).alloc (.cells #[.int .u64 23, .int .u64 42, .int .u64 2, .int .u64 17] 49)) (fun p hp => World.cell?_alloc_lt _ _ p (by rw [put4_size]; rcases hp with hp | hp; exact hp.elim; omega))).mono (fun b hb => ?_)))
  rcases hb with hb | hb
  · exact hb.elim
  · exact ⟨by omega, by simp only [World.size_alloc]; simp [World.setCell]; omega⟩
set_option maxRecDepth 100000 in
set_option maxHeartbeats 8000000 in
theorem awake_any (w : World) : Calls Try.prog 13 #[] w fun e w' => e = .returned (.bool true) ∧ Below w.heap.size w w' := by
  have HP := Lib.hid (fun w => pair_any w)
  have HN := Lib.hid (fun w => new_any w)
  go_enter Try.func13, Try.ntmps13
  go_wp2_with fail
  refine (HN.out _).mono ?_
  rintro e w1 ⟨g, rfl, hT1, hb1⟩
  have HT1 := Lib.hid hT1; have HB1 := Lib.hid hb1
  clear hT1 hb1
  go_wp2_with fail
  rename_i K1 hK1 K2 hK2
  have HKK := Lib.hid hK1
  clear hK1
  refine (HP.out _).mono ?_
  rintro e w2 ⟨A, b, rfl, ht2, hbb, hbk2, hb2⟩
  have HTP := Lib.hid ht2; have HBK := Lib.hid hbk2; have HBB := Lib.hid hbb
  have HB2 := Lib.hid hb2; have HB02 := Lib.hid (fbelow HB1.out hb2)
  clear ht2 hbk2 hb2 hbb
  go_wp2_with fail
  refine HKK.out _ _ ?_
  have ht4 := Blk.new w2 24 #[.int .i64 7, .int .i64 0, .string ⟨#[]⟩, .slice A 2 2]
  have hb3 := ballocs (Below.refl w2.heap.size w2) (.cells #[.int .i64 7, .int .i64 0, .string ⟨#[]⟩, .slice A 2 2] 24)
  obtain ⟨w3, hw3⟩ : ∃ x, w2.alloc (.cells #[.int .i64 7, .int .i64 0, .string ⟨#[]⟩, .slice A 2 2] 24) = x := ⟨_, rfl⟩
  rw [hw3] at ht4 hb3 ⊢
  obtain ⟨t0, t1, t2, t3, _, _, _, _⟩ := ht4.four
  have HBT := Lib.hid ht4
  have HB3 := Lib.hid hb3; have HB03 := Lib.hid (fbelow HB02.out hb3); have HB13 := Lib.hid (fbelow HB2.out hb3)
  clear hw3 ht4 hb3
  go_wp2_with fail
  refine (flatten_any g [] pairT _ w3 _ (Fr w1 w2) (HT1.out.keep (G := fun _ => False) (Keep.new HB13.out) (fun _ _ h => h)) (HTP.out.under HB3.out (fun b hb => hb.2)) (fun b hb => ⟨Nat.lt_of_lt_of_le hb.2 HB3.out.size, fun h => by have := hb.1; have := h.2; omega⟩) (Nat.le_trans (chk_nodes chk_pair) (by decide))).mono ?_
  rintro e w4 ⟨F', sv, rfl, hT4, hF4, hk4, ho4, hs4⟩
  rw [flE_pair]
  rw [flL_pair] at hT4
  rw [flW_pair] at ho4
  obtain ⟨A4, c4, rfl, _, _⟩ := ownsRow_form ho4
  have hb04 : Below w.heap.size w w4 := Keep.below HB03.out hk4 (HB03.out.size) (fun i hi h => by have := HB1.out.size; have := h.1; omega)
  have hk34 : ∀ p : Addr, p.block < w3.heap.size → w1.heap.size ≤ p.block → w4.cell? p = w3.cell? p := fun p h1 h2 => hk4.cell h1 (fun h => by have := h.2; omega)
  have HT4 := Lib.hid hT4; have HF4 := Lib.hid hF4; have HO4 := Lib.hid ho4; have HB04 := Lib.hid hb04; have HK34 := Lib.hid hk34
  have HZ34 := Lib.hid hk4.size
  have HBT4 := Lib.hid (HBT.out.keep hk4 (fun h => by have := h.2; have := HB2.out.size; omega))
  have HBK4 := Lib.hid ((HBK.out.below HB3.out HBK.out.lt).keep hk4 (fun h => by have := h.2; have := HBB.out; omega))
  clear hT4 hF4 ho4 hb04 hk34 hk4 hs4 t0 t1 t2 t3
  go_wp2_with fail
  rename_i K3 hK3 K4 hK4
  have HKK3 := Lib.hid hK3
  clear hK3
  refine (read_any g (some ⟨b, 0, none⟩) pairL 4 F' [⟨#[97]⟩] pair_U (by decide) (fun h => by cases h) (by decide) w4 HT4.out (PairPost.words HBK4.out)).mono ?_
  rintro e w5 ⟨hb5, (⟨t, v, hF, _, _, rfl, ht⟩ | ⟨hE, _⟩)⟩
  rotate_left
  · rw [rdE_pair] at hE; rcases hE with h | h <;> cases h
  rw [rdF_pair] at hF
  injection hF with hF
  subst hF
  obtain ⟨A5, c5, rfl, _, _⟩ := ht.inv
  rw [show tv pairT A5 c5 = .agg #[.int .i64 7, .int .i64 0, .string ⟨#[]⟩, .slice A5 2 c5] from rfl] at ht ⊢
  have HU := Lib.hid ht; have HB5 := Lib.hid hb5
  clear ht hb5
  go_wp2_with fail
  refine HKK3.out _ _ ?_
  have ht6 := Blk.new w5 24 #[.int .i64 7, .int .i64 0, .string ⟨#[]⟩, .slice A5 2 c5]
  have hb6 := ballocs (Below.refl w5.heap.size w5) (.cells #[.int .i64 7, .int .i64 0, .string ⟨#[]⟩, .slice A5 2 c5] 24)
  obtain ⟨w6, hw6⟩ : ∃ x, w5.alloc (.cells #[.int .i64 7, .int .i64 0, .string ⟨#[]⟩, .slice A5 2 c5] 24) = x := ⟨_, rfl⟩
  rw [hw6] at ht6 hb6 ⊢
  have hb46 := fbelow HB5.out hb6
  obtain ⟨x0, x1, x2, x3, _, _, _, _⟩ := ht6.four
  obtain ⟨t0, t1, t2, t3, _, _, _, _⟩ := (HBT4.out.below hb46 HBT4.out.lt).four
  have HTU := Lib.hid (show ∀ n, TA (w6.drewN n) pairT (.agg #[.int .i64 7, .int .i64 0, .string ⟨#[]⟩, .slice A5 2 c5]) from fun n => ((HU.out.under hb6 (fun b hb => hb.2)).mono (fun b hb => Nat.lt_of_lt_of_le hb.2 hb6.size)).drewN n)
  have HTT := Lib.hid (show ∀ n, TA (w6.drewN n) pairT (.agg #[.int .i64 7, .int .i64 0, .string ⟨#[]⟩, .slice A 2 2]) from fun n => (((((HTP.out.under HB3.out (fun b hb => hb.2)).keep (w' := w4) (fun p hp => HK34.out p (Nat.lt_of_lt_of_le hp.2 HB3.out.size) hp.1)).under hb46 (fun b hb => Nat.lt_of_lt_of_le hb.2 (Nat.le_trans HB3.out.size HZ34.out)))).mono (fun b hb => Nat.lt_of_lt_of_le hb.2 (Nat.le_trans (Nat.le_trans HB3.out.size HZ34.out) hb46.size))).drewN n)
  have HSW := Lib.hid (sameWords_yes A4 (some ⟨b, 0, none⟩) c4 4 _ _ pairL w6 ((Reads.of_own HO4.out).below hb46) (PairPost.words (HBK4.out.below hb46 HBK4.out.lt)) (by decide))
  have HB6 := Lib.hid (fun n => fdrewN (fbelow HB04.out hb46) n)
  clear hw6 ht6 hb6 hb46
  go_wp2_with fail
  refine HSW.out.mono ?_
  rintro e w' ⟨rfl, n, rfl⟩
  go_wp2_with fail
  refine (sameTerm_any pairT pairT _ _ _ (HTU.out n) (HTT.out n)).mono ?_
  rintro e w7 ⟨rfl, hb7⟩
  rw [eqT_self]
  have HB7 := Lib.hid (fbelow (HB6.out n) hb7)
  clear hb7
  go_wp2_with fail
  go_ret
  exact ⟨ret1_b rfl, HB7.out⟩
end Go.Proofs.Ytfcialleekfjmaa.Fl
