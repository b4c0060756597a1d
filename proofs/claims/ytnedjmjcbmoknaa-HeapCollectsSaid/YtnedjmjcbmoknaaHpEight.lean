/- The examples' heap; got, awake. -/
import Derived.Test.YtnedjmjcbmoknaaHpVal
import Derived.Test.YtnedjmjcbmoknaaTmSame
import Derived.Test.YtnedjmjcbmoknaaTmMake
import Derived.Test.YtnedjmjcbmoknaaLeaf
import Derived.Test.YtnedjmjcbmoknaaSmall
namespace Go.Proofs.Ytnedjmjcbmoknaa.Hp
open Go.RowKit K At Wd Fl
set_option linter.unusedVariables false
set_option linter.unusedSimpArgs false

/-- What eight answers. -/
def EightPost (w : World) (e : Ending) (w' : World) : Prop := ∃ gh g F, e = .returned (.tuple #[.pointer (some ⟨gh, 0, none⟩), .bool true]) ∧ Hp w' F gh g [] 8 H8 ∧ (∀ k, F k → w.heap.size ≤ k) ∧ Below w.heap.size w w'
set_option maxRecDepth 100000 in
set_option maxHeartbeats 800000 in
theorem eight_any (w : World) : Calls Try.prog 6 #[] w (EightPost w) := by
  have HA := Lib.hid (At.new_any w)
  have HN1 := Lib.hid (fun w => num_val 1 w)
  have HN2 := Lib.hid (fun w => num_val 2 w)
  have HT := Lib.hid (fun A m c w => tup_val A m c w)
  go_enter Try.func6, Try.ntmps6
  go_wp2_with fail
  refine HA.out.mono ?_
  rintro e w1 ⟨g, rfl, hT1, hb1⟩
  have HW := Lib.hid (new_any g [] 8 w1 _ hT1 (by decide) (by decide))
  have HB1 := Lib.hid hb1
  clear hT1 hb1
  go_wp2_with fail
  refine HW.out.mono ?_
  rintro e w2 ⟨gh, rfl, hH2, hb2⟩
  have hF2 : ∀ k, ((fun k => w.heap.size ≤ k ∧ k < w1.heap.size) k ∨ w1.heap.size ≤ k ∧ k < w2.heap.size) → w.heap.size ≤ k := fun k hk => by have := HB1.out.size; rcases hk with h | h; exact h.1; omega
  have HH2 := Lib.hid hH2; have HB2 := Lib.hid (fbelow HB1.out hb2); have HF2 := Lib.hid hF2
  clear hH2 hb2 hF2
  go_wp2_with fail
  refine (HN1.out _).mono ?_
  rintro e w3 ⟨rfl, hb3⟩
  have HB3 := Lib.hid (fbelow HB2.out hb3); have HH3 := Lib.hid (HH2.out.below hb3)
  clear hb3
  go_wp2_with fail
  refine (HN2.out _).mono ?_
  rintro e w4 ⟨rfl, hb4⟩
  have HB4 := Lib.hid (fbelow HB3.out hb4); have HH4 := Lib.hid (HH3.out.below hb4)
  clear hb4
  go_wp2_with fail
  have hrow := lit2 (w := w4) (F := fun _ => False) (num_leaf w4 1 (by decide)) (num_leaf w4 2 (by decide)) (fun b h => h.elim)
  refine (HT.out _ _ _ _).mono ?_
  rintro e w5 ⟨rfl, hb5⟩
  have hb45 := ballocs (Below.refl w4.heap.size w4) (.cells #[.int .i64 1, .int .i64 1, .string ⟨#[]⟩, .slice none 0 0, .int .i64 1, .int .i64 2, .string ⟨#[]⟩, .slice none 0 0] 28)
  have hT5 : TAt w5 (fun b => b = w4.heap.size) two (.agg #[.int .i64 7, .int .i64 0, .string ⟨#[]⟩, .slice (some ⟨w4.heap.size, 0, none⟩) 2 2]) :=
    TAt.of (t := two) (A := some ⟨w4.heap.size, 0, none⟩) (c := 2) ⟨by decide, by decide, by decide, by decide, by decide, fun h => by cases h⟩ ((hrow.keep (w' := w5) (fun p hp => hb5.cell (by rcases hp with hp | hp; exact hp.elim; simp only [World.size_alloc]; omega))).mono (fun b hb => by rcases hb with h | h; exact h.elim; exact h))
  have hz5 : w4.heap.size < w5.heap.size := by have := hb5.size; simp only [World.size_alloc] at this; omega
  have HB5 := Lib.hid (fbelow (fbelow HB4.out hb45) hb5)
  have HH5 := Lib.hid ((HH4.out.below hb45).below hb5)
  have HP := Lib.hid (put_any gh g [] 8 [] two _ w5 _ (fun b => b = w4.heap.size) HH5.out hT5 (fun b hb => ⟨by omega, fun h => by have := HH4.out.lt _ h; omega⟩) (by rw [nodes_two]; decide))
  rw [putW_two, putE_two, putH_two, flL_two] at HP
  clear hrow hb5 hb45 hT5
  go_wp2_with fail
  refine HP.out.mono ?_
  rintro e w6 ⟨rfl, F', hH6, hF6, hk6⟩
  have HU := Lib.hid (used_any gh g [] 8 H8 w6 F' hH6)
  rw [hW_H8] at HU
  have HH6 := Lib.hid hH6; have HF6 := Lib.hid hF6
  have HB6 := Lib.hid (Keep.below HB5.out hk6 HB5.out.size (fun i hi h => by have := HF2.out i h; omega))
  clear hH6 hF6 hk6
  go_wp2_with fail
  refine HU.out.mono ?_
  rintro e w7 ⟨rfl, h7⟩
  obtain rfl : w6 = w7 := h7.symm
  go_wp2_with fail
  go_ret2
  exact ⟨gh, g, F', rfl, HH6.out, fun k hk => by
    rcases HF6.out k hk with h | h
    · exact HF2.out k h
    · have := HB5.out.size; omega, HB6.out⟩
set_option maxRecDepth 100000 in
set_option maxHeartbeats 800000 in
theorem got_any (gh g : Nat) (L : List ByteArray) (lim : Int) (H : List It) (t t' : Tm) (u : Int) (v : Value) (w : World) (F : Nat → Prop) (h : Hp w F gh g L lim H) (hrep : Rep H L t u) (hw6 : wds t ≤ 65536) (hv : TA w t' v) :
    Calls Try.prog 11 #[.pointer (some ⟨gh, 0, none⟩), .int .u64 u, v] w fun e w' => e = .returned (.bool (eqT t t')) ∧ Below w.heap.size w w' := by
  obtain ⟨k, n, s, l, A, c, rfl, rfl, ok, hl⟩ := hv.open_
  have hb0 := ballocs (Below.refl w.heap.size w) (.cells #[.int .i64 k, .int .i64 n, .string s, .slice A l.length c] 28)
  have hbt := Blk.new w 28 #[.int .i64 k, .int .i64 n, .string s, .slice A l.length c]
  obtain ⟨w0, hw0⟩ : ∃ x, w.alloc (.cells #[.int .i64 k, .int .i64 n, .string s, .slice A l.length c] 28) = x := ⟨_, rfl⟩
  rw [hw0] at hb0 hbt
  have HG := Lib.hid (get_any gh g L lim H t u w0 F (h.below hb0) hrep hw6)
  have HB0 := Lib.hid hb0; have HBT := Lib.hid hbt; have HV := Lib.hid hv; have HW0 := Lib.hid hw0
  clear h hrep hw6 hv ok hl hb0 hbt hw0
  go_enter Try.func11, Try.ntmps11
  go_wp2_with fail
  rw [HW0.out]
  refine HG.out.mono ?_
  rintro e w1 ⟨v1, rfl, ht1, hb1⟩
  obtain ⟨A1, c1, rfl, ok1, _⟩ := ht1.inv
  have hb01 := fbelow HB0.out hb1
  have hbt1 := HBT.out.below hb1 HBT.out.lt
  have hlt := hbt1.lt
  have hb02 := ballocs hb01 (.cells #[.int .i64 t.k, .int .i64 t.n, .string t.s, .slice A1 t.l.length c1] 28)
  have hta : TA (w1.alloc (.cells #[.int .i64 t.k, .int .i64 t.n, .string t.s, .slice A1 t.l.length c1] 28)) t (tv t A1 c1) := TA.alloc (TAt.mono ht1 (fun b hb => hb.2)) _
  have HS := Lib.hid (sameTerm_any t _ _ _ _ hta (HV.out.later hb02))
  have HB2 := Lib.hid hb02
  obtain ⟨p0, p1, p2, p3, _, _, _, _⟩ := hbt1.four
  unfold tv at HS ⊢
  clear ht1 hb1 hb01 hbt1 hb02 hta ok1
  go_wp2_with fail
  refine HS.out.mono ?_
  rintro e w3 ⟨rfl, hb3⟩
  have HB3 := Lib.hid (fbelow HB2.out hb3)
  clear hb3
  go_wp2_with fail
  go_ret
  exact ⟨rfl, HB3.out⟩
set_option maxRecDepth 100000 in
set_option maxHeartbeats 800000 in
theorem awake_any (w : World) : Calls Try.prog 7 #[] w fun e w' => e = .returned (.bool true) ∧ Below w.heap.size w w' := by
  have HE := Lib.hid (eight_any w)
  have HN1 := Lib.hid (fun w => num_val 1 w)
  have HN2 := Lib.hid (fun w => num_val 2 w)
  have HT := Lib.hid (fun A m c w => tup_val A m c w)
  go_enter Try.func7, Try.ntmps7
  go_wp2_with fail
  refine HE.out.mono ?_
  rintro e w2 ⟨gh, g, F, rfl, hH2, _, hb2⟩
  have HH2 := Lib.hid hH2; have HB2 := Lib.hid hb2
  clear hH2 hb2
  go_wp2_with fail
  refine (HN1.out _).mono ?_
  rintro e w3 ⟨rfl, hb3⟩
  have HB3 := Lib.hid (fbelow HB2.out hb3); have HH3 := Lib.hid (HH2.out.below hb3)
  clear hb3
  go_wp2_with fail
  refine (HN2.out _).mono ?_
  rintro e w4 ⟨rfl, hb4⟩
  have HB4 := Lib.hid (fbelow HB3.out hb4); have HH4 := Lib.hid (HH3.out.below hb4)
  clear hb4
  go_wp2_with fail
  have hrow := lit2 (w := w4) (F := fun _ => False) (num_leaf w4 1 (by decide)) (num_leaf w4 2 (by decide)) (fun b h => h.elim)
  refine (HT.out _ _ _ _).mono ?_
  rintro e w5 ⟨rfl, hb5⟩
  have hb45 := ballocs (Below.refl w4.heap.size w4) (.cells #[.int .i64 1, .int .i64 1, .string ⟨#[]⟩, .slice none 0 0, .int .i64 1, .int .i64 2, .string ⟨#[]⟩, .slice none 0 0] 28)
  have hz5 : w4.heap.size < w5.heap.size := by have := hb5.size; simp only [World.size_alloc] at this; omega
  have hT5 : TA w5 two (.agg #[.int .i64 7, .int .i64 0, .string ⟨#[]⟩, .slice (some ⟨w4.heap.size, 0, none⟩) 2 2]) :=
    TAt.of (t := two) (A := some ⟨w4.heap.size, 0, none⟩) (c := 2) ⟨by decide, by decide, by decide, by decide, by decide, fun h => by cases h⟩ ((hrow.keep (w' := w5) (fun p hp => hb5.cell (by rcases hp with hp | hp; exact hp.elim; simp only [World.size_alloc]; omega))).mono (fun b hb => by rcases hb with h | h; exact h.elim; omega))
  have HB5 := Lib.hid (fbelow (fbelow HB4.out hb45) hb5)
  have HG := Lib.hid (got_any gh g [] 8 H8 two two 7 _ w5 F ((HH4.out.below hb45).below hb5) (rep_two H8 [] [] (by simp)) (by rw [wds_two]; omega) hT5)
  rw [eqT_self] at HG
  clear hrow hb5 hb45 hT5
  go_wp2_with fail
  refine HG.out.mono ?_
  rintro e w6 ⟨rfl, hb6⟩
  have HB6 := Lib.hid (fbelow HB5.out hb6)
  clear hb6
  go_wp2_with fail
  go_ret
  exact ⟨rfl, HB6.out⟩
end Go.Proofs.Ytnedjmjcbmoknaa.Hp
