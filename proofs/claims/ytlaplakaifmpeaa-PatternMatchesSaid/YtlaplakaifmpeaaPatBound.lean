/- pattern.Bound, by its contract; Vars and Bound of what may not be. -/
import Derived.Test.YtlaplakaifmpeaaPatVars2
namespace Go.Proofs.Ytlaplakaifmpeaa.Pt
open Go.RowKit K Go.Shelf
set_option linter.unusedVariables false
set_option linter.unusedSimpArgs false
attribute [local go_sem] Oper.semAt_some

def freeB (u : Tm) : Bool := decide (u.k = 2) && (decide (numS u.s ≠ none) || decide (u.s = uscore))
def boundT (t : Tm) : Bool := mayT t && !((rleafs t).any freeB)
theorem any_snoc (L : List Tm) (u : Tm) : (L ++ [u]).any freeB = (L.any freeB || freeB u) := by simp [List.any_append]
set_option maxRecDepth 100000 in
set_option maxHeartbeats 8000000 in
theorem bound_yes (t : Tm) (v : Value) (w : World) (h : TA w t v) (hn : nodes t ≤ 1048576) (hm : mayT t = true) : Calls Try.prog 31 #[v] w fun e w' => e = .returned (.bool (boundT t)) ∧ Below w.heap.size w w' := by
  have ht := h
  have hbt : boundT t = !((rleafs t).any freeB) := by unfold boundT; rw [hm]; rfl
  obtain ⟨k, n9, s, l, A, c, rfl, rfl, ok, hl⟩ := h.open_
  refine (callsIn_wide (n := 9)).1 ?_
  refine callsIn_of_wp_marks Try.func31 rfl trivial ?_ rfl
  simp only [Try.ntmps31, List.size_toArray, List.length_cons, List.length_nil, Nat.reduceAdd, Nat.reduceSub, Array.replicate_succ, Array.replicate_zero, List.push_toArray, List.append_toArray, List.nil_append, List.cons_append]
  obtain ⟨W1, hW1⟩ : ∃ W1, (w.alloc (.cells #[.int .i64 k, .int .i64 n9, .string s, .slice A l.length c] 24)).alloc (.cells #[.bool false] 4) = W1 := ⟨_, rfl⟩
  have HB1 := Lib.hid (show Below w.heap.size w W1 from by rw [← hW1]; exact ballocs (ballocs (Below.refl _ _) _) _)
  have HG := Lib.hid (show Blk W1 w.heap.size 24 #[.int .i64 k, .int .i64 n9, .string s, .slice A l.length c] from by rw [← hW1]; exact (Blk.new _ _ _).alloc _)
  have HRB := Lib.hid (show Blk W1 (w.heap.size + 1) 4 #[.bool false] from by
    rw [← hW1]
    have := Blk.new (w.alloc (.cells #[.int .i64 k, .int .i64 n9, .string s, .slice A l.length c] 24)) 4 #[.bool false]
    simp only [World.size_alloc] at this
    exact this)
  have HC := Lib.hid (may_any _ _ W1 (ht.later HB1.out) hn)
  rw [hm] at HC
  have HW := Lib.hid hW1
  have HT := Lib.hid ht
  have HBT := Lib.hid hbt
  clear hW1 h ok hl hm ht hbt
  gi_wp2_with (refine ⟨trivial, ?_⟩; first
    | (gi_at_call 41; rw [HW.out]; refine (callsIn_wide.2 HC.out).mono ?_; rintro e w2 ⟨rfl, hb2⟩; have HB2 := Lib.hid (bnext HB1.out hb2); have HG2 := Lib.hid (HG.out.below hb2 HG.out.lt); have HR2 := Lib.hid (HRB.out.below hb2 HRB.out.lt); obtain ⟨p0, p1, p2, p3, _, _, _, _⟩ := HG2.out.four; clear hb2)
    | (gi_at_call 56; refine (partsF_any _ _ _ _ _ _ _ _).mono ?_; rintro e w' ⟨rfl, rfl⟩))
  obtain ⟨W0, hW0⟩ : ∃ W0, w2.alloc (.cells #[.int .i64 k, .int .i64 n9, .string s, .slice A l.length c] 24) = W0 := ⟨_, rfl⟩
  have hz0 : W0.heap.size = w2.heap.size + 1 := by rw [← hW0]; simp
  have hz2 : w.heap.size + 1 < w2.heap.size := HR2.out.lt
  have hb0 : Below w.heap.size w W0 := by rw [← hW0]; exact ballocs HB2.out _
  have hbx : Blk W0 w2.heap.size 24 #[.int .i64 k, .int .i64 n9, .string s, .slice A l.length c] := by rw [← hW0]; exact Blk.new _ _ _
  have hr0 : Blk W0 (w.heap.size + 1) 4 #[.bool false] := by rw [← hW0]; exact HR2.out.alloc _
  have ht := HT.out
  rw [hW0]
  clear hW0 p0 p1 p2 p3 HC HW HG HRB HG2 HR2
  refine wp_rangeB (n0 := w.heap.size) (N := nodes (.mk k n9 s l)) (encs := ptEnc) (Ok := fun x => TAt w (· < w.heap.size) x.1 x.2.val) (S := fun xs => xs.map (·.1) = rleafs (.mk k n9 s l)) (Sp := fun xs => ∃ r, xs.map (·.1) ++ r = rleafs (.mk k n9 s l)) rfl (enters_of Try.func69 (by kernel_rfl) rfl) hb0.size
    (fun W hb hz => (leafs1_in (.mk k n9 s l) _ w2.heap.size w.heap.size (W0.heap.size + 2) W hn (by omega) (by omega) ((TAt.under ht hb0 (fun _ h => h)).under hb (fun b hb' => by omega)) (fun k' n' s' A' m' c' e => by
      injection e with e
      simp only [Array.mk.injEq, List.cons.injEq, and_true] at e
      obtain ⟨e0, e1, e2, e3⟩ := e
      rw [← e0, ← e1, ← e2, ← e3]
      exact hbx.below hb (by omega))).ok (fun x hx => hx.keep fun p hp => ((hb0.trans (hb.mono (by omega))).cell hp).symm)) (fun _ => rfl)
    (fun pre W => Blk W (w.heap.size + 1) 4 #[.bool false] ∧ (pre.map (·.1)).any freeB = false ∧ Below w.heap.size w W)
    (fun c pre W => c = .ret ∧ Blk W (w.heap.size + 1) 4 #[.bool false] ∧ (pre.map (·.1)).any freeB = true ∧ Below w.heap.size w W)
    (fun pre X Y hI hb => ⟨hI.1.below hb (by omega), hI.2.1, hI.2.2.trans (hb.mono (by omega))⟩)
    (fun c pre X Y hI hb => ⟨hI.1, hI.2.1.below hb (by omega), hI.2.2.1, hI.2.2.2.trans (hb.mono (by omega))⟩)
    ⟨hr0, rfl, hb0⟩
    (fun x a' X => ∃ Bx, w.heap.size ≤ Bx ∧ Blk X Bx 24 #[.int .i64 x.2.k, .int .i64 x.2.n, .string x.2.s, .slice x.2.A x.2.m x.2.c] ∧ a' = { tmps := #[.agg #[.int .i64 k, .int .i64 n9, .string s, .slice A l.length c], .pointer (some ⟨w.heap.size, 0, none⟩), .pointer (some ⟨w.heap.size + 1, 0, none⟩), .pointer (some ⟨Bx, 0, none⟩), undef, undef, .agg #[.int .i64 k, .int .i64 n9, .string s, .slice A l.length c], .bool true, .bool false, .agg #[.int .i64 k, .int .i64 n9, .string s, .slice A l.length c], .func (.func 69) #[] #[.pointer (some ⟨w2.heap.size, 0, none⟩)], x.2.val, undef, undef, undef, undef, undef, undef, undef, undef, undef, undef, undef, undef, undef, undef, undef, undef, undef], defers := [] })
    (fun x a' X Y hx hr hk => by
      obtain ⟨Bx, h1, h2, h3⟩ := hx
      obtain ⟨r, hr⟩ := hr
      refine ⟨Bx, h1, (hk Bx (fun e => ?_)).trans h2, h3⟩
      unfold Blk at h2
      rw [e, hr] at h2
      cases h2)
    ?assign ?body ?done ?stop
  case assign =>
    rintro l9 x Wx K9 hz9 hK9
    simp only [ptEnc, TV.val]
    gi_wp2
    exact hK9 _ _ ((Below.refl _ _).alloc (Nat.le_refl _) _) ⟨Wx.heap.size, by omega, Blk.new _ _ _, rfl⟩
  case body =>
    rintro l9 pre x a9 Wx ⟨hI1, hI3, hI4⟩ ⟨Bx, hBx, hX, rfl⟩ hlt hok hz9
    obtain ⟨hxk, hxs, hxl⟩ := pt_parts hok
    obtain ⟨z0, z1, z2, z3, _, _, _, _⟩ := hX.four
    have HX := Lib.hid hX; have H1 := Lib.hid hI1; have H4 := Lib.hid hI4; have H3 := Lib.hid hI3
    have HNS := Lib.hid (number_any x.2.s hxl Wx)
    have hsz := hI4.size
    have HLT1 := Lib.hid hI1.lt
    obtain ⟨xk, hxk2⟩ : ∃ z, x.2.k = z := ⟨_, rfl⟩
    obtain ⟨xs, hxs2⟩ : ∃ z, x.2.s = z := ⟨_, rfl⟩
    have HV := Lib.hid (show freeB x.1 = (decide (xk = 2) && (decide (numS xs ≠ none) || decide (xs = uscore))) from by unfold freeB; rw [← hxk, ← hxs, hxk2, hxs2])
    unfold TV.val
    rw [hxk2] at z0 HX ⊢
    rw [hxs2] at z2 HX HNS ⊢
    clear hX hI1 hI4 hI3 hok hlt hxk hxs hxk2 hxs2 hxl
    obtain ⟨iv, hiv⟩ : ∃ o, numS xs = o := ⟨_, rfl⟩
    rw [hiv] at HNS HV
    have HFIN := Lib.hid (show ∀ W3, Below Wx.heap.size Wx W3 → freeB x.1 = false → postB w.heap.size W0.heap.size (fun pre W => Blk W (w.heap.size + 1) 4 #[.bool false] ∧ (pre.map (·.1)).any freeB = false ∧ Below w.heap.size w W) (fun c pre W => c = .ret ∧ Blk W (w.heap.size + 1) 4 #[.bool false] ∧ (pre.map (·.1)).any freeB = true ∧ Below w.heap.size w W) (pre ++ [x]) Wx .normal ⟨#[], []⟩ W3 from fun W3 hb hf => by
      refine ⟨Keep.new hb, H1.out.below hb HLT1.out, ?_, H4.out.trans (hb.mono (by omega))⟩
      rw [List.map_append, List.map_cons, List.map_nil, any_snoc, H3.out, hf]; rfl)
    have HSTOP := Lib.hid (show ∀ W3, Below Wx.heap.size Wx W3 → freeB x.1 = true → Keep (Mild w.heap.size W0.heap.size) Wx (W3.setCell ⟨w.heap.size + 1, 0, none⟩ (.bool false)) ∧ Code.ret = Code.ret ∧ Blk (W3.setCell ⟨w.heap.size + 1, 0, none⟩ (.bool false)) (w.heap.size + 1) 4 #[.bool false] ∧ ((pre ++ [x]).map (·.1)).any freeB = true ∧ Below w.heap.size w (W3.setCell ⟨w.heap.size + 1, 0, none⟩ (.bool false)) from fun W3 hb hf => by
      refine ⟨(Keep.new hb).setCell (p := ⟨w.heap.size + 1, 0, none⟩) (.inl ⟨by show w.heap.size ≤ w.heap.size + 1; omega, by show w.heap.size + 1 < W0.heap.size; omega⟩) _, rfl, ?_, ?_, (H4.out.trans (hb.mono (by omega))).setCell (p := ⟨w.heap.size + 1, 0, none⟩) (Nat.le_succ _) _⟩
      · have := (H1.out.below hb HLT1.out).set_ 0 (.bool false)
        simpa using this
      · rw [List.map_append, List.map_cons, List.map_nil, any_snoc, hf, Bool.or_true])
    by_cases h2 : xk = 2
    · subst h2
      cases iv with
      | some q =>
        unfold numV at HNS
        have HF := Lib.hid (show freeB x.1 = true from by rw [HV.out]; simp)
        clear hiv
        gi_wp2_with (refine ⟨trivial, ?_⟩; gi_at_call 55; refine (CallsIn.inRound l9 (callsIn_wide.2 HNS.out)).mono ?_; rintro e W3 ⟨rfl, hb1⟩; have HBB := Lib.hid hb1; obtain ⟨y0, y1, y2, y3, _, _, _, _⟩ := (HX.out.below hb1 HX.out.lt).four; have w1c : W3.cell? ⟨w.heap.size + 1, 0, none⟩ = some (.bool false) := ((H1.out.below hb1 HLT1.out).cell 0).trans rfl; have w1f : W3.frozen? ⟨w.heap.size + 1, 0, none⟩ = false := (H1.out.below hb1 HLT1.out).frozen 0; clear hb1)
        obtain ⟨s1, _, s3, s4, s5⟩ := HSTOP.out _ HBB.out HF.out
        exact ⟨s1, rfl, s3, s4, s5⟩
      | none =>
        unfold numV at HNS
        clear hiv
        by_cases hus : xs = uscore
        · subst hus
          have HF := Lib.hid (show freeB x.1 = true from by rw [HV.out]; simp)
          have hus2 : (uscore.toList == [95]) = true := by rw [Lib.toList_data]; rfl
          have hus3 : uscore.toList = [95] := by rw [Lib.toList_data]; rfl
          gi_wp2_with (refine ⟨trivial, ?_⟩; gi_at_call 55; refine (CallsIn.inRound l9 (callsIn_wide.2 HNS.out)).mono ?_; rintro e W3 ⟨rfl, hb1⟩; have HBB := Lib.hid hb1; obtain ⟨y0, y1, y2, y3, _, _, _, _⟩ := (HX.out.below hb1 HX.out.lt).four; have w1c : W3.cell? ⟨w.heap.size + 1, 0, none⟩ = some (.bool false) := ((H1.out.below hb1 HLT1.out).cell 0).trans rfl; have w1f : W3.frozen? ⟨w.heap.size + 1, 0, none⟩ = false := (H1.out.below hb1 HLT1.out).frozen 0; clear hb1)
          obtain ⟨s1, _, s3, s4, s5⟩ := HSTOP.out _ HBB.out HF.out
          exact ⟨s1, rfl, s3, s4, s5⟩
        · have hu := us_ne hus
          have HF := Lib.hid (show freeB x.1 = false from by rw [HV.out]; simp [hus])
          clear hus
          gi_wp2_with (refine ⟨trivial, ?_⟩; gi_at_call 55; refine (CallsIn.inRound l9 (callsIn_wide.2 HNS.out)).mono ?_; rintro e W3 ⟨rfl, hb1⟩; have HBB := Lib.hid hb1; obtain ⟨y0, y1, y2, y3, _, _, _, _⟩ := (HX.out.below hb1 HX.out.lt).four; clear hb1)
          exact HFIN.out _ HBB.out HF.out
    · have hxb : (xk == 2) = false := by rw [beq_eq_false_iff_ne]; exact h2
      have HF := Lib.hid (show freeB x.1 = false from by rw [HV.out]; simp [h2])
      clear h2 hiv
      cases iv with
      | some q =>
        unfold numV at HNS
        gi_wp2_with (refine ⟨trivial, ?_⟩; gi_at_call 55; refine (CallsIn.inRound l9 (callsIn_wide.2 HNS.out)).mono ?_; rintro e W3 ⟨rfl, hb1⟩; have HBB := Lib.hid hb1; obtain ⟨y0, y1, y2, y3, _, _, _, _⟩ := (HX.out.below hb1 HX.out.lt).four; clear hb1)
        exact HFIN.out _ HBB.out HF.out
      | none =>
        unfold numV at HNS
        gi_wp2_with (refine ⟨trivial, ?_⟩; gi_at_call 55; refine (CallsIn.inRound l9 (callsIn_wide.2 HNS.out)).mono ?_; rintro e W3 ⟨rfl, hb1⟩; have HBB := Lib.hid hb1; obtain ⟨y0, y1, y2, y3, _, _, _, _⟩ := (HX.out.below hb1 HX.out.lt).four; clear hb1)
        exact HFIN.out _ HBB.out HF.out
  case done =>
    rintro D xs Wd hD hxs ⟨hI1, hI3, hI4⟩ hdf
    rw [hxs] at hI3
    have HE := Lib.hid (show boundT (.mk k n9 s l) = true from by rw [HBT.out, hI3]; rfl)
    have c1 : Wd.cell? ⟨w.heap.size + 1, 0, none⟩ = some (.bool false) := (hI1.cell 0).trans rfl
    have f1 : Wd.frozen? ⟨w.heap.size + 1, 0, none⟩ = false := hI1.frozen 0
    have HI1 := Lib.hid hI1; have H4 := Lib.hid hI4; have HDF := Lib.hid hdf
    clear hI1 hI3 hI4 hdf hxs
    gi_wp2
    refine leaves_marks [D] _ (by simp) (fun D' hD' => ?_) fun W' hk' => ?_
    · obtain rfl : D' = D := by simpa using hD'
      exact (Below.heap_setCell Wd _ _ D' (by show D' ≠ w.heap.size + 1; omega)).trans HDF.out
    · have hr := ((HI1.out.set_ 0 (.bool true)).keep hk' (by simp; omega)).cell 0
      have hr : W'.cell? ⟨w.heap.size + 1, 0, none⟩ = some (.bool true) := hr.trans (by simp)
      exact ⟨.bool true, by simp [results, Try.results31, go_sem, hr], by rw [HE.out], (H4.out.setCell (p := ⟨w.heap.size + 1, 0, none⟩) (by show w.heap.size ≤ w.heap.size + 1; omega) _).trans (hk'.to_below (by have := H4.out.size; simpa [World.setCell] using this) (fun i _ hi => by have : i = D := (by simpa using hi); omega))⟩
  case stop =>
    rintro D cj pre Wd hD ⟨r, hr⟩ ⟨rfl, hI1, hI2, hI3⟩ hdf
    have HE := Lib.hid (show boundT (.mk k n9 s l) = false from by
      rw [HBT.out, ← hr, List.any_append, hI2]; rfl)
    have HDF := Lib.hid hdf; have H4 := Lib.hid hI3; have HI1 := Lib.hid hI1
    clear hdf hI1 hI2 hI3 hr
    gi_wp2
    refine leaves_marks [D] _ (by simp) (fun D' hD' => ?_) fun W' hk' => ?_
    · obtain rfl : D' = D := by simpa using hD'
      exact HDF.out
    · have hr : W'.cell? ⟨w.heap.size + 1, 0, none⟩ = some (.bool false) := ((HI1.out.keep hk' (by simp; omega)).cell 0).trans rfl
      exact ⟨.bool false, by simp [results, Try.results31, go_sem, hr], by rw [HE.out], H4.out.trans (hk'.to_below (by have := H4.out.size; omega) (fun i _ hi => by have : i = D := (by simpa using hi); omega))⟩
set_option maxRecDepth 100000 in
set_option maxHeartbeats 4000000 in
theorem bound_no (t : Tm) (v : Value) (w : World) (h : TA w t v) (hn : nodes t ≤ 1048576) (hm : mayT t = false) : Calls Try.prog 31 #[v] w fun e w' => e = .returned (.bool (boundT t)) ∧ Below w.heap.size w w' := by
  have ht := h
  have hbt : boundT t = false := by unfold boundT; rw [hm]; rfl
  obtain ⟨k, n9, s, l, A, c, rfl, rfl, ok, hl⟩ := h.open_
  obtain ⟨W1, hW1⟩ : ∃ W1, (w.alloc (.cells #[.int .i64 k, .int .i64 n9, .string s, .slice A l.length c] 24)).alloc (.cells #[.bool false] 4) = W1 := ⟨_, rfl⟩
  have HB1 := Lib.hid (show Below w.heap.size w W1 from by rw [← hW1]; exact ballocs (ballocs (Below.refl _ _) _) _)
  have HRB := Lib.hid (show Blk W1 (w.heap.size + 1) 4 #[.bool false] from by
    rw [← hW1]
    have := Blk.new (w.alloc (.cells #[.int .i64 k, .int .i64 n9, .string s, .slice A l.length c] 24)) 4 #[.bool false]
    simp only [World.size_alloc] at this
    exact this)
  have HC := Lib.hid (may_any _ _ W1 (ht.later HB1.out) hn)
  rw [hm] at HC
  have HW := Lib.hid hW1
  have HBT := Lib.hid hbt
  clear hW1 h ok hl hm ht hbt
  go_enter Try.func31, Try.ntmps31
  go_wp2_with fail
  rw [HW.out]
  refine HC.out.mono ?_
  rintro e w2 ⟨rfl, hb2⟩
  have HB2 := Lib.hid (bnext HB1.out hb2)
  have hr2 := HRB.out.below hb2 HRB.out.lt
  have HR2 := Lib.hid hr2
  have c1 : w2.cell? ⟨w.heap.size + 1, 0, none⟩ = some (.bool false) := (hr2.cell 0).trans rfl
  have f1 : w2.frozen? ⟨w.heap.size + 1, 0, none⟩ = false := hr2.frozen 0
  clear hb2 hr2
  go_wp2_with fail
  refine bodyPost_ret (v := .bool false) (by simp [results, Try.results31, go_sem, c1]) rfl ⟨by rw [HBT.out], HB2.out.setCell (p := ⟨w.heap.size + 1, 0, none⟩) (Nat.le_succ _) _⟩
theorem bound_any (t : Tm) (v : Value) (w : World) (h : TA w t v) (hn : nodes t ≤ 1048576) : Calls Try.prog 31 #[v] w fun e w' => e = .returned (.bool (boundT t)) ∧ Below w.heap.size w w' := by
  cases hm : mayT t with
  | true => exact bound_yes t v w h hn hm
  | false => exact bound_no t v w h hn hm
set_option maxRecDepth 100000 in
set_option maxHeartbeats 4000000 in
theorem vars_no (t : Tm) (v : Value) (w : World) (h : TA w t v) (hn : nodes t ≤ 1048576) (hm : mayT t = false) : Calls Try.prog 29 #[v] w fun e w' => e = .returned (.slice none 0 0) ∧ Below w.heap.size w w' := by
  have ht := h
  obtain ⟨k, n9, s, l, A, c, rfl, rfl, ok, hl⟩ := h.open_
  obtain ⟨W1, hW1⟩ : ∃ W1, w.alloc (.cells #[.int .i64 k, .int .i64 n9, .string s, .slice A l.length c] 24) = W1 := ⟨_, rfl⟩
  have HB1 := Lib.hid (show Below w.heap.size w W1 from by rw [← hW1]; exact ballocs (Below.refl _ _) _)
  have HC := Lib.hid (may_any _ _ W1 (ht.later HB1.out) hn)
  rw [hm] at HC
  have HW := Lib.hid hW1
  clear hW1 h ok hl hm ht
  go_enter Try.func29, Try.ntmps29
  go_wp2_with fail
  rw [HW.out]
  refine HC.out.mono ?_
  rintro e w2 ⟨rfl, hb2⟩
  have HB2 := Lib.hid (bnext HB1.out hb2)
  clear hb2
  go_wp2_with fail
  go_ret
  exact ⟨rfl, HB2.out⟩
end Go.Proofs.Ytlaplakaifmpeaa.Pt
