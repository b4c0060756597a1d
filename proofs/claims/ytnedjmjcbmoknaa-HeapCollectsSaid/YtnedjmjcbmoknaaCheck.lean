/- term.Check, by its contract. -/
import Derived.Test.YtnedjmjcbmoknaaParts
import Derived.Test.YtnedjmjcbmoknaaChkSpec
namespace Go.Proofs.Ytnedjmjcbmoknaa.K
open Go.RowKit Go.Shelf
set_option linter.unusedVariables false
set_option linter.unusedSimpArgs false
attribute [local go_sem] Oper.semAt_some

theorem partsF_any (k n9 : Int) (s : ByteArray) (A : Option Addr) (m c : Nat) (w : World) (n : Nat) :
    CallsIn Fence.wide n Try.prog 45 #[.agg #[.int .i64 k, .int .i64 n9, .string s, .slice A m c]] w fun e w' => e = .returned (.func (.func 58) #[] #[.pointer (some ⟨w.heap.size, 0, none⟩)]) ∧ w' = w.alloc (.cells #[.int .i64 k, .int .i64 n9, .string s, .slice A m c] 28) := by
  refine callsIn_of_wp Try.func45 rfl trivial ?_ rfl
  simp only [Try.ntmps45, List.size_toArray, List.length_cons, List.length_nil, Nat.reduceAdd, Nat.reduceSub, Array.replicate_succ, Array.replicate_zero, List.push_toArray, List.append_toArray, List.nil_append, List.cons_append]
  gi_wp2
  go_ret
  exact ⟨rfl, rfl⟩
set_option maxRecDepth 100000 in
set_option maxHeartbeats 4000000 in
theorem check_any (t : Tm) (v : Value) (w : World) (h : TA w t v) (hn : nodes t ≤ 1048576) : Calls Try.prog 25 #[v] w fun e w' => e = .returned (.int .i64 (chk t)) ∧ Below w.heap.size w w' := by
  have ht := h
  obtain ⟨k, n9, s, l, A, c, rfl, rfl, ok, hl⟩ := h.open_
  refine (callsIn_wide (n := 9)).1 ?_
  refine callsIn_of_wp_marks Try.func25 rfl trivial ?_ rfl
  simp only [Try.ntmps25, List.size_toArray, List.length_cons, List.length_nil, Nat.reduceAdd, Nat.reduceSub, Array.replicate_succ, Array.replicate_zero, List.push_toArray, List.append_toArray, List.nil_append, List.cons_append]
  gi_wp2_with (refine ⟨trivial, ?_⟩; gi_at_call 45; refine (partsF_any _ _ _ _ _ _ _ _).mono ?_; rintro e w' ⟨rfl, rfl⟩)
  obtain ⟨W0, hW0⟩ : ∃ W0, (((w.alloc (.cells #[.int .i64 k, .int .i64 n9, .string s, .slice A l.length c] 28)).alloc (.cells #[.int .i64 0] 32)).alloc (.cells #[.int .i64 0] 3)).alloc (.cells #[.int .i64 k, .int .i64 n9, .string s, .slice A l.length c] 28) = W0 := ⟨_, rfl⟩
  have hz0 : W0.heap.size = w.heap.size + 4 := by rw [← hW0]; simp
  have hb0 : Below w.heap.size w W0 := by rw [← hW0]; exact ballocs (ballocs (ballocs (ballocs (Below.refl _ _) _) _) _) _
  have hr1 : Blk W0 (w.heap.size + 1) 32 #[.int .i64 0] := by
    rw [← hW0]
    have := Blk.new (w.alloc (.cells #[.int .i64 k, .int .i64 n9, .string s, .slice A l.length c] 28)) 32 #[.int .i64 0]
    simp only [World.size_alloc] at this
    exact (this.alloc _).alloc _
  have hr2 : Blk W0 (w.heap.size + 1 + 1) 3 #[.int .i64 0] := by
    rw [← hW0]
    have := Blk.new ((w.alloc (.cells #[.int .i64 k, .int .i64 n9, .string s, .slice A l.length c] 28)).alloc (.cells #[.int .i64 0] 32)) 3 #[.int .i64 0]
    simp only [World.size_alloc] at this
    exact this.alloc _
  have hr3 : Blk W0 (w.heap.size + 1 + 1 + 1) 28 #[.int .i64 k, .int .i64 n9, .string s, .slice A l.length c] := by
    rw [← hW0]
    have := Blk.new (((w.alloc (.cells #[.int .i64 k, .int .i64 n9, .string s, .slice A l.length c] 28)).alloc (.cells #[.int .i64 0] 32)).alloc (.cells #[.int .i64 0] 3)) 28 #[.int .i64 k, .int .i64 n9, .string s, .slice A l.length c]
    simp only [World.size_alloc] at this
    exact this
  rw [hW0]
  clear hW0 h hl ok
  refine wp_rangeB (n0 := w.heap.size) (N := nodes (.mk k n9 s l)) (encs := ptEnc) (Ok := fun x => TAt w (· < w.heap.size) x.1 x.2.val) (S := fun xs => xs.map (·.1) = subs (.mk k n9 s l)) (Sp := fun xs => ∃ r, xs.map (·.1) ++ r = subs (.mk k n9 s l)) rfl (enters_of Try.func58 (by kernel_rfl) rfl) hb0.size
    (fun W hb hz => (parts1_in (.mk k n9 s l) _ (w.heap.size + 1 + 1 + 1) w.heap.size (W0.heap.size + 2) W hn (by omega) (by omega) ((TAt.under ht hb0 (fun _ h => h)).under hb (fun b hb' => by omega)) (fun k' n' s' A' m' c' e => by
      injection e with e
      simp only [Array.mk.injEq, List.cons.injEq, and_true] at e
      obtain ⟨e0, e1, e2, e3⟩ := e
      rw [← e0, ← e1, ← e2, ← e3]
      exact hr3.below hb (by omega))).ok (fun x hx => hx.keep fun p hp => ((hb0.trans (hb.mono (by omega))).cell hp).symm)) (fun _ => rfl)
    (fun pre W => Blk W (w.heap.size + 1) 32 #[.int .i64 0] ∧ Blk W (w.heap.size + 1 + 1) 3 #[.int .i64 (wrdL (pre.map (·.1)))] ∧ sndL (pre.map (·.1)) = true ∧ Below w.heap.size w W)
    (fun c pre W => c = .ret ∧ Blk W (w.heap.size + 1) 32 #[.int .i64 2] ∧ sndL (pre.map (·.1)) = false ∧ Below w.heap.size w W)
    (fun pre X Y hI hb => ⟨hI.1.below hb (by omega), hI.2.1.below hb (by omega), hI.2.2.1, hI.2.2.2.trans (hb.mono (by omega))⟩)
    (fun c pre X Y hI hb => ⟨hI.1, hI.2.1.below hb (by omega), hI.2.2.1, hI.2.2.2.trans (hb.mono (by omega))⟩)
    ⟨hr1, hr2, rfl, hb0⟩
    (fun x a' X => ∃ Bx, w.heap.size ≤ Bx ∧ Blk X Bx 28 #[.int .i64 x.2.k, .int .i64 x.2.n, .string x.2.s, .slice x.2.A x.2.m x.2.c] ∧ a' = { tmps := #[.agg #[.int .i64 k, .int .i64 n9, .string s, .slice A l.length c], .pointer (some ⟨w.heap.size, 0, none⟩), .pointer (some ⟨w.heap.size + 1, 0, none⟩), .pointer (some ⟨w.heap.size + 1 + 1, 0, none⟩), .pointer (some ⟨Bx, 0, none⟩), .agg #[.int .i64 k, .int .i64 n9, .string s, .slice A l.length c], .func (.func 58) #[] #[.pointer (some ⟨w.heap.size + 1 + 1 + 1, 0, none⟩)], x.2.val, undef, undef, undef, undef, undef, undef, undef, undef, undef], defers := [] })
    (fun x a' X Y hx hr hk => by
      obtain ⟨Bx, h1, h2, h3⟩ := hx
      obtain ⟨r, hr⟩ := hr
      refine ⟨Bx, h1, (hk Bx (fun e => ?_)).trans h2, h3⟩
      unfold Blk at h2
      rw [e, hr] at h2
      cases h2)
    ?assign ?body ?done ?stop
  case assign =>
    rintro l9 x Wx K9 hz9 hK9
    simp only [ptEnc, TV.val]
    gi_wp2
    exact hK9 _ _ ((Below.refl _ _).alloc (Nat.le_refl _) _) ⟨Wx.heap.size, by omega, Blk.new _ _ _, rfl⟩
  case body =>
    rintro l9 pre x a9 Wx ⟨hI1, hI2, hI3, hI4⟩ ⟨Bx, hBx, hX, rfl⟩ hlt hok hz9
    have hta : TA Wx x.1 x.2.val := (TAt.under hok hI4 (fun _ h => h)).mono (fun b hb => Nat.lt_of_lt_of_le hb hI4.size)
    have hmix : Try.prog.follows .mixedOrders = true := by kernel_rfl
    obtain ⟨z0, z1, z2, z3, _, _, _, _⟩ := hX.four
    obtain ⟨y, hy⟩ : ∃ y, wrdL (pre.map (·.1)) = y := ⟨_, rfl⟩
    have hyr := wrdL_range (pre.map (·.1))
    rw [List.length_map, hy] at hyr
    have hy0 : 0 ≤ y := hyr.1
    have hy1 : y ≤ 4194304 := by have := hyr.2; omega
    rw [hy] at hI2
    have HY := Lib.hid hy
    have hsz := hI4.size
    have HX := Lib.hid hX; have H1 := Lib.hid hI1; have H2 := Lib.hid hI2; have H3 := Lib.hid hI3; have H4 := Lib.hid hI4; have HTA := Lib.hid hta
    have HSN := Lib.hid (sound_any x.1 _ Wx hta)
    have lX := hX.lt; have l1 := hI1.lt; have l2 := hI2.lt
    have HLX := Lib.hid lX; have HL1 := Lib.hid l1; have HL2 := Lib.hid l2
    unfold TV.val at HSN
    clear hX hI1 hI2 hI3 hI4 hta hy hyr hok hlt lX l1 l2
    cases hsb : soundB x.1 with
    | true =>
      have HSB := Lib.hid hsb
      rw [hsb] at HSN
      clear hsb
      obtain ⟨o, ho⟩ : ∃ o, ownN x.1 = o := ⟨_, rfl⟩
      have hor := ownN_range x.1
      rw [ho] at hor
      obtain ⟨ho1, ho2⟩ := hor
      gi_wp2_with (refine ⟨trivial, ?_⟩; gi_at_call 46; refine (CallsIn.inRound l9 (callsIn_wide.2 HSN.out)).mono ?_; rintro e W1 ⟨rfl, hb1⟩)
      have hx1 := HX.out.below hb1 HLX.out
      have hq1 := H2.out.below hb1 HL2.out
      obtain ⟨v0, v1, v2, v3, _, _, _, _⟩ := hx1.four
      have w1c : W1.cell? ⟨w.heap.size + 1 + 1, 0, none⟩ = some (.int .i64 y) := by rw [hq1.cell]; rfl
      have HO := Lib.hid (ho ▸ own_any x.1 _ W1.drew (HTA.out.later hb1).drew)
      unfold TV.val at HO
      have HOO := Lib.hid ho
      have HB1 := Lib.hid hb1; have HQ1 := Lib.hid hq1; have HLQ := Lib.hid hq1.lt
      clear hx1 hq1 hb1 ho
      gi_region_with_o (refine ⟨trivial, ?_⟩; gi_at_call 47; refine (CallsIn.inRound l9 (callsIn_wide.2 HO.out)).mono ?_; rintro e W2 ⟨rfl, hb2⟩; have hq2 := (HQ1.out.drew).below hb2 HLQ.out; have w2c : W2.cell? ⟨w.heap.size + 1 + 1, 0, none⟩ = some (.int .i64 y) := (hq2.cell 0).trans rfl; have w2f : W2.frozen? ⟨w.heap.size + 1 + 1, 0, none⟩ = false := hq2.frozen 0)
      all_goals
        rw [IntWalk.i64_in (y + o) (by omega)]
        have k2 : Keep (Mild w.heap.size W0.heap.size) Wx W2 := (Keep.new HB1.out).drew.trans (Keep.new hb2) (fun _ _ h => h)
        have hz2 := hb2.size
        have hz1 := HB1.out.size
        refine ⟨k2.setCell (p := ⟨w.heap.size + 1 + 1, 0, none⟩) (.inl ⟨by show w.heap.size ≤ w.heap.size + 1 + 1; omega, by show w.heap.size + 1 + 1 < W0.heap.size; omega⟩) _, ?_, ?_, ?_, ?_⟩
        · exact (((H1.out.below HB1.out HL1.out).drew).below hb2 (by have := HL1.out; have : W1.drew.heap.size = W1.heap.size := rfl; omega)).far (by show w.heap.size + 1 ≠ w.heap.size + 1 + 1; omega) _
        · have h1 := hq2.set_ 0 (.int .i64 (y + o))
          rw [List.map_append, wrdL_append, HY.out, show wrdL ([x].map (·.1)) = o from by simp [wrdL, HOO.out]]
          simpa using h1
        · unfold sndL
          rw [List.map_append, List.all_append, show (pre.map (·.1)).all soundB = true from H3.out]
          simp [HSB.out]
        · exact (((H4.out.trans (HB1.out.mono (by omega))).trans ((bundrew hb2).mono (by have : W1.drew.heap.size = W1.heap.size := rfl; omega))).setCell (p := ⟨w.heap.size + 1 + 1, 0, none⟩) (by show w.heap.size ≤ w.heap.size + 1 + 1; omega) _)
    | false =>
      have HSB := Lib.hid hsb
      rw [hsb] at HSN
      clear hsb
      gi_wp2_with (refine ⟨trivial, ?_⟩; gi_at_call 46; refine (CallsIn.inRound l9 (callsIn_wide.2 HSN.out)).mono ?_; rintro e W1 ⟨rfl, hb1⟩; have hq1 := H1.out.below hb1 HL1.out; have w1c : W1.cell? ⟨w.heap.size + 1, 0, none⟩ = some (.int .i64 0) := (hq1.cell 0).trans rfl; have w1f : W1.frozen? ⟨w.heap.size + 1, 0, none⟩ = false := hq1.frozen 0)
      refine ⟨(Keep.new hb1).setCell (p := ⟨w.heap.size + 1, 0, none⟩) (.inl ⟨by show w.heap.size ≤ w.heap.size + 1; omega, by show w.heap.size + 1 < W0.heap.size; omega⟩) _, rfl, ?_, ?_, ?_⟩
      · have h1 := hq1.set_ 0 (.int .i64 2)
        simpa using h1
      · unfold sndL
        rw [List.map_append, List.all_append]
        simp [HSB.out]
      · exact (H4.out.trans (hb1.mono (by have := HL1.out; omega))).setCell (p := ⟨w.heap.size + 1, 0, none⟩) (by show w.heap.size ≤ w.heap.size + 1; omega) _
  case done =>
    rintro D xs Wd hD hxs ⟨hI1, hI2, hI3, hI4⟩ hdf
    rw [hxs] at hI2 hI3
    have hyr := wrdL_range (subs (.mk k n9 s l))
    rw [subs_length] at hyr
    obtain ⟨y, hy⟩ : ∃ y, wrdL (subs (.mk k n9 s l)) = y := ⟨_, rfl⟩
    rw [hy] at hI2 hyr
    have hy0 := hyr.1
    have hy1 : y ≤ 4194304 := by have := hyr.2; omega
    have c2 : Wd.cell? ⟨w.heap.size + 1 + 1, 0, none⟩ = some (.int .i64 y) := by rw [hI2.cell]; rfl
    have c1 : Wd.cell? ⟨w.heap.size + 1, 0, none⟩ = some (.int .i64 0) := by rw [hI1.cell]; rfl
    have f1 : Wd.frozen? ⟨w.heap.size + 1, 0, none⟩ = false := hI1.frozen 0
    have HDF := Lib.hid hdf; have H4 := Lib.hid hI4; have HI1 := Lib.hid hI1
    by_cases hbig : 65536 < y
    · have HE := Lib.hid (show chk (.mk k n9 s l) = 3 from by unfold chk; rw [if_pos hI3, if_pos (by rw [hy]; exact hbig)])
      clear hdf hI1 hI2 hI3 hI4 hxs hyr hy
      gi_wp2
      refine leaves_marks [D] _ (by simp) (fun D' hD' => ?_) fun W' hk' => ?_
      · obtain rfl : D' = D := by simpa using hD'
        exact (Below.heap_setCell Wd _ _ D' (by show D' ≠ w.heap.size + 1; omega)).trans HDF.out
      · have hr := ((HI1.out.set_ 0 (.int .i64 3)).keep hk' (by simp; omega)).cell 0
        have hr : W'.cell? ⟨w.heap.size + 1, 0, none⟩ = some (.int .i64 3) := hr.trans (by simp)
        exact ⟨.int .i64 3, by simp [results, Try.results25, go_sem, hr], by rw [HE.out], (H4.out.setCell (p := ⟨w.heap.size + 1, 0, none⟩) (by show w.heap.size ≤ w.heap.size + 1; omega) _).trans (hk'.to_below (by have := H4.out.size; simpa [World.setCell] using this) (fun i _ hi => by have : i = D := (by simpa using hi); omega))⟩
    · have HE := Lib.hid (show chk (.mk k n9 s l) = 0 from by unfold chk; rw [if_pos hI3, if_neg (by rw [hy]; exact hbig)])
      clear hdf hI1 hI2 hI3 hI4 hxs hyr hy
      gi_wp2
      refine leaves_marks [D] _ (by simp) (fun D' hD' => ?_) fun W' hk' => ?_
      · obtain rfl : D' = D := by simpa using hD'
        exact (Below.heap_setCell Wd _ _ D' (by show D' ≠ w.heap.size + 1; omega)).trans HDF.out
      · have hr := ((HI1.out.set_ 0 (.int .i64 0)).keep hk' (by simp; omega)).cell 0
        have hr : W'.cell? ⟨w.heap.size + 1, 0, none⟩ = some (.int .i64 0) := hr.trans (by simp)
        exact ⟨.int .i64 0, by simp [results, Try.results25, go_sem, hr], by rw [HE.out], (H4.out.setCell (p := ⟨w.heap.size + 1, 0, none⟩) (by show w.heap.size ≤ w.heap.size + 1; omega) _).trans (hk'.to_below (by have := H4.out.size; simpa [World.setCell] using this) (fun i _ hi => by have : i = D := (by simpa using hi); omega))⟩
  case stop =>
    rintro D cj pre Wd hD ⟨r, hr⟩ ⟨rfl, hI1, hI2, hI3⟩ hdf
    have HE := Lib.hid (show chk (.mk k n9 s l) = 2 from by
      unfold chk
      rw [if_neg]
      rw [← hr]
      unfold sndL at hI2 ⊢
      rw [List.all_append, hI2]
      simp)
    have HDF := Lib.hid hdf; have H4 := Lib.hid hI3; have HI1 := Lib.hid hI1
    clear hdf hI1 hI2 hI3 hr
    gi_wp2
    refine leaves_marks [D] _ (by simp) (fun D' hD' => ?_) fun W' hk' => ?_
    · obtain rfl : D' = D := by simpa using hD'
      exact HDF.out
    · have hr : W'.cell? ⟨w.heap.size + 1, 0, none⟩ = some (.int .i64 2) := ((HI1.out.keep hk' (by simp; omega)).cell 0).trans rfl
      exact ⟨.int .i64 2, by simp [results, Try.results25, go_sem, hr], by rw [HE.out], H4.out.trans (hk'.to_below (by have := H4.out.size; omega) (fun i _ hi => by have : i = D := (by simpa using hi); omega))⟩
end Go.Proofs.Ytnedjmjcbmoknaa.K
