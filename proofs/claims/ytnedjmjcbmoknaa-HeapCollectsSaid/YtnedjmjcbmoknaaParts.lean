/- term.parts: the iterator over a term and all its parts, by its contract. -/
import Derived.Test.YtnedjmjcbmoknaaPartsA
import Derived.Deep.LoopGhost
import Derived.Shelf.RegionOpen
namespace Go.Proofs.Ytnedjmjcbmoknaa.K
open Go.RowKit Go.Shelf
set_option linter.unusedVariables false
set_option linter.unusedSimpArgs false
attribute [local go_sem] Oper.semAt_some

set_option maxRecDepth 100000 in
set_option maxHeartbeats 16000000 in
theorem parts1_in (t : Tm) (tvl : Value) (Bt n0 B : Nat) (W : World) (hn : nodes t ≤ 1048576) (hB : n0 ≤ B) (hBW : B ≤ W.heap.size) (ht : TAt W (· < n0) t tvl) (hbt : ∀ k n s A m c, tvl = .agg #[.int .i64 k, .int .i64 n, .string s, .slice A m c] → Blk W Bt 28 #[.int .i64 k, .int .i64 n, .string s, .slice A m c]) :
    SeqB Try.prog 58 #[.pointer (some ⟨Bt, 0, none⟩)] ptEnc (fun x => TAt W (· < n0) x.1 x.2.val) (fun xs => xs.map (·.1) = subs t) (fun xs => ∃ r, xs.map (·.1) ++ r = subs t) (nodes t) n0 B W := by
  intro n l J Jx hJ hJx hY h0
  obtain ⟨k0, n9, s0, l0, A0, c0, rfl, rfl, ok, hl0⟩ : ∃ k n s l A c, t = .mk k n s l ∧ tvl = .agg #[.int .i64 k, .int .i64 n, .string s, .slice A l.length c] ∧ TOk (.mk k n s l) A c ∧ TsAt W (· < n0) A l := by
    obtain ⟨A, c, rfl, ok, hl⟩ := TAt.inv ht
    obtain ⟨k, n, s, l⟩ := t
    exact ⟨k, n, s, l, A, c, rfl, rfl, ok, hl⟩
  obtain ⟨p0, p1, p2, p3, q0, q1, q2, q3⟩ := (hbt _ _ _ _ _ _ rfl).four
  refine callsIn_of_wp_marks Try.func58 rfl trivial ?_ rfl
  simp only [Try.ntmps58, List.size_toArray, List.length_cons, List.length_nil, Nat.reduceAdd, Nat.reduceSub, Array.replicate_succ, Array.replicate_zero, List.push_toArray, List.append_toArray, List.nil_append, List.cons_append]
  gi_wp2
  obtain ⟨W1, hW1⟩ : ∃ W1, (W.alloc (.cells #[.int .i64 k0, .int .i64 n9, .string s0, .slice A0 l0.length c0] 28)).alloc (.cells #[.slice (some ⟨W.heap.size, 0, none⟩) 1 1] 26) = W1 := ⟨_, rfl⟩
  have HW1 := Lib.hid hW1
  rw [hW1]
  clear hW1 p0 p1 p2 p3 q0 q1 q2 q3
  refine wpIn_wide.2 (wp_loop_ghost_k (fun gk a wr => ∃ (u4 u5 u6 u9 u10 u11 u12 u13 u14 u15 u16 u17 u18 u19 u20 u21 u22 u23 u24 u25 u26 u27 u28 u29 u30 u31 u32 u33 u34 u35 u36 u37 : Value) (Ds : List Nat) (L : List Tm) (pre : List (Tm × TV)), a = { tmps := #[.func (.yield l) #[] #[], .pointer (some ⟨Bt, 0, none⟩), undef, .pointer (some ⟨W.heap.size + 1, 0, none⟩), u4, u5, u6, .agg #[.int .i64 k0, .int .i64 n9, .string s0, .slice A0 l0.length c0], .slice (some ⟨W.heap.size, 0, none⟩) 1 1, u9, u10, u11, u12, u13, u14, u15, u16, u17, u18, u19, u20, u21, u22, u23, u24, u25, u26, u27, u28, u29, u30, u31, u32, u33, u34, u35, u36, u37], defers := marks Ds } ∧ PtInv W n0 B (.mk k0 n9 s0 l0) J gk Ds L pre wr) (nodes (.mk k0 n9 s0 l0)) ?_ ?_)
  · refine ⟨_, _, _, _, _, _, _, _, _, _, _, _, _, _, _, _, _, _, _, _, _, _, _, _, _, _, _, _, _, _, _, _, [], [.mk k0 n9 s0 l0], [], rfl, ?_⟩
    rw [← HW1.out]
    have hs1 : (W.alloc (.cells #[.int .i64 k0, .int .i64 n9, .string s0, .slice A0 l0.length c0] 28)).heap.size = W.heap.size + 1 := by simp
    have hb1 : Below W.heap.size W ((W.alloc (.cells #[.int .i64 k0, .int .i64 n9, .string s0, .slice A0 l0.length c0] 28)).alloc (.cells #[.slice (some ⟨W.heap.size, 0, none⟩) 1 1] 26)) := ballocs (ballocs (Below.refl _ _) _) _
    refine ⟨by rw [nodesL_cons, nodesL_nil]; omega, List.nodup_nil, fun D hD => by simp at hD, hJ _ _ _ h0 (hb1.mono hBW), by rw [List.reverse_singleton, subsL_cons, subsL_nil]; simp, ⟨.slice (some ⟨W.heap.size, 0, none⟩) 1 1, [.agg #[.int .i64 k0, .int .i64 n9, .string s0, .slice A0 l0.length c0]], ?_, .one ((TAt.of (t := .mk k0 n9 s0 l0) ok hl0).keep fun p hp => hb1.cell (Nat.lt_of_lt_of_le (show p.block < n0 from hp) (by omega))), ?_, by omega⟩, hb1.mono (by omega)⟩
    · have := Blk.new (W.alloc (.cells #[.int .i64 k0, .int .i64 n9, .string s0, .slice A0 l0.length c0] 28)) 26 #[.slice (some ⟨W.heap.size, 0, none⟩) 1 1]
      rw [hs1] at this
      exact this
    · have := World.ownsRow_lit (base := B) (e := 28) (size := 4) W #[.int .i64 k0, .int .i64 n9, .string s0, .slice A0 l0.length c0] 1 hBW (by simp [maxLen]) rfl
      exact this.alloc _
  · rintro gk a wr ⟨u4, u5, u6, u9, u10, u11, u12, u13, u14, u15, u16, u17, u18, u19, u20, u21, u22, u23, u24, u25, u26, u27, u28, u29, u30, u31, u32, u33, u34, u35, u36, u37, Ds, L, pre, rfl, hinv⟩ Jg K hJg hK
    refine (wpIn_wide (n := n + 1)).1 ?_
    have HI := Lib.hid hinv
    obtain ⟨hgk, hD1, hD2, hJp, hpre, hst, hbel⟩ := hinv
    obtain ⟨v, vs, hbx, hvs, hrow, hBl⟩ := hst
    obtain ⟨A3, c3, rfl, hc3, hm3⟩ := ownsRow_form hrow
    have cl := hbx.cell
    have fl := hbx.frozen
    rcases List.eq_nil_or_concat L with rfl | ⟨L', x, rfl⟩
    · have HD1 := Lib.hid hD1; have HD2 := Lib.hid hD2; have HJ := Lib.hid hJp; have HP := Lib.hid hpre; have HB := Lib.hid hbel
      have HJJ := Lib.hid hJ
      clear hD1 hD2 hJp hpre hbel hJ hJx hY hrow hvs
      gi_wp2
      refine leaves_marks Ds _ HD1.out (fun D hD => (HD2.out D hD).2) fun W' hk' => ?_
      refine ⟨_, results_none rfl _ _ _, ⟨_, rfl⟩, .inl ⟨pre, ?_, HJJ.out _ _ _ HJ.out (hk'.to_below (by have := HB.out.size; omega) (fun i _ hi => (HD2.out i hi).1))⟩⟩
      simpa [subsL_nil] using HP.out
    · rw [List.concat_eq_append] at hrow hvs hc3 cl hbx
      have hlen : (L' ++ [x]).length = L'.length + 1 := by simp
      rw [hlen] at hrow hc3 cl hbx
      obtain ⟨g, cap, he, hBg, hgl⟩ := hrow.form (by omega)
      injection he with e1 e2 e3
      subst e1 e3
      clear e2
      have hx0 := (L' ++ [x])
      obtain ⟨vx, hvx, htx, hcx⟩ := hvs.at_ (i := L'.length) (u := x) (by simp)
      have hcell := hrow.cells (g := g) rfl
      obtain ⟨A5, c5, rfl, ok5, hl5⟩ := htx.inv
      have r0 := hcell (L'.length * 4 + 0) _ ((hcx 0 (by omega)).trans rfl)
      have r1 := hcell (L'.length * 4 + 1) _ ((hcx 1 (by omega)).trans rfl)
      have r2 := hcell (L'.length * 4 + 2) _ ((hcx 2 (by omega)).trans rfl)
      have r3 := hcell (L'.length * 4 + 3) _ ((hcx 3 (by omega)).trans rfl)
      simp only [add_plain', Nat.zero_add, Nat.add_zero] at r0 r1 r2 r3
      have hI0 : PtInv W n0 B (.mk k0 n9 s0 l0) J gk Ds (L' ++ [x]) pre wr := by have := HI.out; rwa [List.concat_eq_append] at this
      have hpre0 := hI0.2.2.2.2.1
      have hlens : pre.length + nodesL (L' ++ [x]) = nodes (.mk k0 n9 s0 l0) := by
        have h1 := congrArg List.length hpre0
        rw [List.length_append, List.length_map, subsL_length, nodesL_reverse, subs_length] at h1
        exact h1
      have hnx := nodes_pop L' x
      have hnl := nodesL_len (L' ++ x.l.reverse)
      rw [List.length_append, List.length_reverse] at hnl
      have hLl : L'.length ≤ 1048576 := by omega
      have hxl1 : x.l.length ≤ 1048576 := by omega
      have HBLT := Lib.hid hbx.lt
      have HM2 := Lib.hid (mid_start (o := .cells #[.int .i64 x.k, .int .i64 x.n, .string x.s, .slice A5 x.l.length c5] 28) hbx hvs hrow hl5 hD2 (by have := hbel.size; omega) (by omega))
      have HI0 := Lib.hid hI0
      have hb2 := hbx.alloc (.cells #[.int .i64 x.k, .int .i64 x.n, .string x.s, .slice A5 x.l.length c5] 28)
      have cl2 := hb2.cell
      have fl2 := hb2.frozen
      obtain ⟨W2, hW2⟩ : ∃ W2, (wr.alloc (.cells #[.int .i64 x.k, .int .i64 x.n, .string x.s, .slice A5 x.l.length c5] 28)).setCell ⟨W.heap.size + 1, 0, none⟩ (.slice (some ⟨g, 0, none⟩) L'.length c3) = W2 := ⟨_, rfl⟩
      have hbw2 : Below B wr W2 := by rw [← hW2]; exact ((Below.refl B wr).alloc (Nat.le_trans hBW hbel.size) _).setCell (p := ⟨W.heap.size + 1, 0, none⟩) (by omega) _
      have hX : Blk W2 wr.heap.size 28 #[.int .i64 x.k, .int .i64 x.n, .string x.s, .slice A5 x.l.length c5] := by
        rw [← hW2]; exact (Blk.new _ _ _).far (by have := hbx.lt; show wr.heap.size ≠ W.heap.size + 1; omega) _
      obtain ⟨fn, tmps, assign, body, hy, hR⟩ := hY pre (x, ⟨x.k, x.n, x.s, A5, x.l.length, c5⟩) W2 (hJ _ _ _ hJp hbw2) (by have := hbw2.size; have := hbel.size; omega) (by omega) (htx.keep (fun p hp => (hbel.cell hp).symm))
      obtain ⟨xc0, xc1, xc2, xc3, _, _, _, _⟩ := hX.four
      rw [← hW2] at xc0 xc1 xc2 xc3
      have hR' := hR
      rw [← hW2] at hR'
      have HX := Lib.hid hX
      rw [← hW2] at hy
      have hyy := hy
      simp only [ptEnc, TV.val] at hyy
      have HW2 := Lib.hid hW2; have HB := Lib.hid hbel
      clear hy hR hX hW2 hbel hY hbx hb2 hcell hvx htx hcx hl5 hrow hvs hgk hD1 hD2 hJp hpre hI0 hpre0 hlens hnx hnl
      gi_wp2
      refine hR'.mono ?_
      rintro e W3 (⟨rfl, hJ3, hk3⟩ | ⟨rfl, hJx3, hk3⟩)
      · rw [HW2.out] at hk3
        obtain ⟨y0, y1, y2, y3, _, _, _, _⟩ := (HX.out.keep hk3 (Mild.no (n0 := n0) (B := B) (by have := HB.out.size; omega))).four
        have HJ3 := Lib.hid hJ3; have HK3 := Lib.hid hk3
        clear hJ3 hk3
        gi_wp2_with (refine ⟨trivial, ?_⟩; gi_at_call 59; refine (back_in n _ _ _ _).mono ?_; rintro e w' ⟨rfl, rfl⟩)
        obtain ⟨W4, hW4⟩ : ∃ W4, W3.alloc (.cells #[.slice A5 x.l.length c5] 26) = W4 := ⟨_, rfl⟩
        rw [hW4]
        have hz2 : W2.heap.size = wr.heap.size + 1 := by rw [← HW2.out]; simp [World.setCell]
        have hz3 : wr.heap.size + 1 ≤ W3.heap.size := by have := HK3.out.size; omega
        have hM2 : Mid n0 B (W.heap.size + 1) g c3 Ds L' x A5 (vs.take L'.length) W2 := by rw [← HW2.out]; exact HM2.out
        have hM3 := hM2.keep (by omega) hBg (by have := HB.out.size; omega) HK3.out (fun k hk => Mild.old hk) (fun k hk => Mild.no hk)
        have hM4 : Mid n0 B (W.heap.size + 1) g c3 Ds L' x A5 (vs.take L'.length) W4 := by rw [← hW4]; exact hM3.keep (by omega) hBg (by have := HB.out.size; omega) ((Keep.refl (fun _ => False) W3).alloc _) (fun _ _ h => h) (fun _ _ h => h)
        have hb34 : Below W3.heap.size W3 W4 := by rw [← hW4]; exact (Below.refl _ W3).alloc (Nat.le_refl _) _
        have hb04 : Below n0 W W4 := by
          have h1 : Below n0 wr W2 := by rw [← HW2.out]; exact ((Below.refl n0 wr).alloc (by have := HB.out.size; omega) _).setCell (p := ⟨W.heap.size + 1, 0, none⟩) (by show n0 ≤ W.heap.size + 1; omega) _
          have h2 : Below n0 W2 W3 := HK3.out.to_below (by have := HB.out.size; omega) (fun i _ hi => hi.1)
          exact ((HB.out.trans h1).trans h2).trans (hb34.mono (by have := HB.out.size; omega))
        have hs4 : W3.heap.size < W4.heap.size := by rw [← hW4]; simp
        have hs5 : W3.heap.size ≠ W.heap.size + 1 := by have := HBLT.out; omega
        have hs6 : W3.heap.size ≠ g := by omega
        have hs7 : n0 ≤ W4.heap.size := by have := HB.out.size; omega
        obtain ⟨cvs, hcl, hcv, hcs⟩ := hM4.kids.tvs (fun _ => True) (fun _ _ _ _ => trivial)
        have hb4 : Boxed W4 (W.heap.size + 1) 26 (.slice (some ⟨g, 0, none⟩) L'.length c3) := hM4.box
        have hr4 : W4.ownsRow B 28 4 (.slice (some ⟨g, 0, none⟩) L'.length c3) L'.length (flat (vs.take L'.length)) := hM4.row
        have hbs : W4.cell? ⟨W3.heap.size, 0, none⟩ = some (.slice A5 cvs.length c5) := by rw [← hW4, hcl]; exact (Blk.new W3 _ _).cell 0
        have hQ4 : ∀ k, (k < n0 ∨ k = W3.heap.size) → k < W4.heap.size := fun k hk => by omega
        have HM4 := Lib.hid hM4
        have HCV := Lib.hid hcv
        clear hM2 hM3 hM4
        refine wpIn_wide.2 ((wpIn_wide (n := 9)).1 ?_)
        refine wpIn_rangeFunc_ownH rfl (by omega) (gf := 63) (lb := #[.pointer (some ⟨W3.heap.size, 0, none⟩)]) rfl trivial (enters_of Try.func63 (by kernel_rfl) rfl)
          (back_stops 7 W3.heap.size c5 A5 cvs (fun k => k < n0 ∨ k = W3.heap.size) (.inr rfl) (by unfold maxLen; omega) W4 hbs hs4 hQ4 (fun i v hv => (hcs i v hv).mono (fun b hb => .inl hb))) KQ.trans (KQ.put hQ4) (Below.refl _ _) (fun _ => rfl)
          (InI W4 B (W.heap.size + 1) g L'.length (vs.take L'.length)) (fun _ _ _ => False) (InI_own _ _ _ _ _ _) (fun _ _ _ _ _ hs _ _ => hs) ⟨⟨_, hb4, by simpa using hr4, fun r e => .inl (by injection e with e; exact e.symm)⟩, Keep.refl _ _⟩
          (fun y a' Wx => ∃ Bx, W4.heap.size ≤ Bx ∧ Blk Wx Bx 28 #[.int .i64 y.2.1.k, .int .i64 y.2.1.n, .string y.2.1.s, .slice y.2.1.A y.2.1.m y.2.1.c] ∧ a' = { tmps := #[.func (.yield l) #[] #[], .pointer (some ⟨Bt, 0, none⟩), undef, .pointer (some ⟨W.heap.size + 1, 0, none⟩), .pointer (some ⟨wr.heap.size, 0, none⟩), u5, .pointer (some ⟨Bx, 0, none⟩), .agg #[.int .i64 k0, .int .i64 n9, .string s0, .slice A0 l0.length c0], .slice (some ⟨W.heap.size, 0, none⟩) 1 1, .slice (some ⟨g, 0, none⟩) (L'.length + 1) c3, .int .i64 ((L'.length : Int) + 1), .bool true, .slice (some ⟨g, 0, none⟩) (L'.length + 1) c3, .slice (some ⟨g, 0, none⟩) (L'.length + 1) c3, .int .i64 ((L'.length : Int) + 1), .int .i64 (L'.length : Int), .pointer (some ⟨g, L'.length * 4, none⟩), .agg #[.int .i64 x.k, .int .i64 x.n, .string x.s, .slice A5 x.l.length c5], .slice (some ⟨g, 0, none⟩) (L'.length + 1) c3, .slice (some ⟨g, 0, none⟩) (L'.length + 1) c3, .int .i64 ((L'.length : Int) + 1), .int .i64 (L'.length : Int), .slice (some ⟨g, 0, none⟩) L'.length c3, .func (.yield l) #[] #[], .agg #[.int .i64 x.k, .int .i64 x.n, .string x.s, .slice A5 x.l.length c5], .bool true, .bool false, .pointer (some ⟨wr.heap.size, 3, none⟩), .slice A5 x.l.length c5, .func (.func 63) #[] #[.pointer (some ⟨W3.heap.size, 0, none⟩)], .int .i64 (y.1 : Int), y.2.1.val, u32, u33, u34, u35, u36, u37], defers := [] })
          ?hax ?assign ?body ?done ?stop
        case hax =>
          intro y a' _ X Y row ⟨Bx, h1, h2, h3⟩ hg hr
          exact ⟨Bx, h1, h2.grown hg (fun e => by
            obtain ⟨_, o, ho, hc⟩ := hr Bx e.symm
            unfold Blk at h2
            rw [h2] at ho; cases ho; cases hc), h3⟩
        case assign =>
          rintro l9 pre9 y Wx K9 ⟨⟨v9, hv9, hr9, ho9⟩, hk9⟩ hK9
          have hz9 := hk9.size
          simp only [bkEnc, TV.val]
          gi_wp2
          refine hK9 _ _ ((KeepsOthers.alloc _ _).from _) ⟨by simp, fun k hk hl => Below.heap_alloc Wx _ k hl⟩ ⟨⟨v9, hv9.alloc _, hr9.alloc _, ho9⟩, hk9.alloc _⟩ ⟨Wx.heap.size, hz9, Blk.new _ _ _, rfl⟩
        case body =>
          rintro l9 pre9 y a9 Wx hl9 ⟨r9, hr9⟩ hI9 ⟨Bx, hBx, hX9, rfl⟩ hlt9
          have HI9 := Lib.hid hI9
          obtain ⟨⟨v9, hv9, hrow9, ho9⟩, hk9⟩ := hI9
          obtain ⟨z0, z1, z2, z3, _, _, _, _⟩ := hX9.four
          obtain ⟨zz0, zz1, zz2, zz3, _, _, _, _⟩ := (hX9.alloc (.cells #[.int .i64 0, .int .i64 0, .string ⟨#[]⟩, .slice none 0 0] 28)).four
          obtain ⟨N, hN⟩ : ∃ N, L'.length + pre9.length = N := ⟨_, rfl⟩
          rw [hN] at hrow9
          obtain ⟨A9, c9, rfl, _, _⟩ := ownsRow_form hrow9
          have q9 := hv9.cell
          have f9 := hv9.frozen
          have q9' := (hv9.alloc (.cells #[.int .i64 0, .int .i64 0, .string ⟨#[]⟩, .slice none 0 0] 28)).cell
          have HN := Lib.hid hN
          have hN2 : N ≤ 2097152 := by have : pre9.length < cvs.length := hlt9; omega
          clear hN
          have hmix : Try.prog.follows .mixedOrders = true := by kernel_rfl
          obtain ⟨i0, hi, hz0, hz1, hz2⟩ := info_parts infoT
          have hlc : pre9.length < cvs.length := hlt9
          have hBs9 : B ≤ Wx.heap.size := by have := hk9.size; omega
          obtain ⟨v6, w6, hrun, hR6, hg6, _, hat6⟩ := run_append_own_at (P := Try.prog) (Wx.drew.alloc (.cells #[.int .i64 0, .int .i64 0, .string ⟨#[]⟩, .slice none 0 0] 28)) B 26 26 28 i0 _ 4 56 Try.underlying26 hi hz0 hz1 hz2 rfl (by decide)
            (.slice A9 N c9) N _ ((hrow9.drew).alloc _) ⟨Wx.heap.size, 0, none⟩ 1 1 [.int .i64 0, .int .i64 0, .string ⟨#[]⟩, .slice none 0 0] rfl (cells4_new Wx.drew _ _ _ _ _) (one4 _ _ _ _ _ _) (by unfold maxLen; omega) (by omega) (by simp; omega)
          obtain ⟨g6, c6, rfl⟩ := ownsRow_succ hR6
          have hrun : Sem.run Try.prog (Builtin.append_ #[26, 26] 26 #[.slice A9 N c9, .slice (some ⟨Wx.heap.size, 0, none⟩) 1 1]) (Wx.alloc (.cells #[.int .i64 0, .int .i64 0, .string ⟨#[]⟩, .slice none 0 0] 28)).drew = .ok (.slice (some ⟨g6, 0, none⟩) (N + 1) c6) w6 := hrun
          have hg6 : (Wx.alloc (.cells #[.int .i64 0, .int .i64 0, .string ⟨#[]⟩, .slice none 0 0] 28)).grownBy w6 (Value.slice A9 N c9).ownBlock := ⟨hg6.os, hg6.tape, hg6.output, hg6.size, hg6.block⟩
          have hat6 : (Value.slice (some ⟨g6, 0, none⟩) (N + 1) c6).ownBlock = (Value.slice A9 N c9).ownBlock ∨ (Value.slice (some ⟨g6, 0, none⟩) (N + 1) c6).ownBlock = some (Wx.heap.size + 1) := by simpa using hat6
          have hb6 : Boxed w6 (W.heap.size + 1) 26 (.slice A9 N c9) := (hv9.alloc _).kept hg6 (hv9.not_row (by decide) hrow9)
          have q6 := hb6.cell
          have f6 := hb6.frozen
          have hcl6 := hR6.cells (g := g6) rfl
          have hxl := hrow9.1
          have mm : ∀ (j : Nat) (u : Value), [Value.int .i64 0, .int .i64 0, .string ⟨#[]⟩, .slice none 0 0][j]? = some u → w6.cell? ⟨g6, N * 4 + j, none⟩ = some u := fun j u hj => by
            have := hcl6 (N * 4 + j) u (by rw [List.getElem?_append_right (by omega), hxl, Nat.add_sub_cancel_left]; exact hj)
            simpa [add_plain'] using this
          have m0 : w6.cell? ⟨g6, N * 4, none⟩ = some (.int .i64 0) := mm 0 _ rfl
          have m1 : w6.cell? ⟨g6, N * 4 + 1, none⟩ = some (.int .i64 0) := mm 1 _ rfl
          have m2 : w6.cell? ⟨g6, N * 4 + 2, none⟩ = some (.string ⟨#[]⟩) := mm 2 _ rfl
          have m3 : w6.cell? ⟨g6, N * 4 + 3, none⟩ = some (.slice none 0 0) := mm 3 _ rfl
          have k0' := hR6.frozenAt (N * 4)
          have k1' := hR6.frozenAt (N * 4 + 1)
          have k2' := hR6.frozenAt (N * 4 + 2)
          have k3' := hR6.frozenAt (N * 4 + 3)
          have hgB : g6 ≠ W.heap.size + 1 := fun e => hb6.not_row (by decide) hR6 (by rw [e]; rfl)
          have hgB' : W.heap.size + 1 ≠ g6 := fun e => hgB e.symm
          have hN1 : N < N + 1 := by omega
          have hN3 : (N : Int) < (N : Int) + 1 := by omega
          have HR6 := Lib.hid hR6; have HG6 := Lib.hid hg6; have HAT := Lib.hid hat6; have HV9 := Lib.hid hv9; have HROW := Lib.hid hrow9; have HK9 := Lib.hid hk9; have HX9 := Lib.hid hX9; have HB6 := Lib.hid hb6
          have HFF := pushed_of (y0 := .int .i64 y.2.1.k) (y1 := .int .i64 y.2.1.n) (y2 := .string y.2.1.s) (y3 := .slice y.2.1.A y.2.1.m y.2.1.c) hv9 hrow9 hg6 hR6 hat6
          unfold put4at at HFF
          have HF1 := Lib.hid (InI_step (y := y) (n0 := n0) (Bs := W3.heap.size) HI9.out hv9 hrow9 HN.out ho9 hat6 HFF.1 hB hBl hBg hs4 hs5 hs6 hs7)
          have HF2 := Lib.hid (InI_step (y := y) (n0 := n0) (Bs := W3.heap.size) HI9.out hv9 hrow9 HN.out ho9 hat6 HFF.2 hB hBl hBg hs4 hs5 hs6 hs7)
          have HO9 := Lib.hid ho9
          clear hcv hcs hcl hR6 hg6 hat6 hv9 hrow9 hk9 hX9 hb6 hcl6 hb4 hr4 hbs y0 y1 y2 y3 mm hxl ho9 HFF
          dsimp only
          gi_wp2
          refine wpIn_region_any hmix ?_
          change wpAnyIn _ _ _ _ _ _ _ _ _ (World.drew _)
          refine wpAnyIn_ready (rs := [0, 1, 3]) (by kernel_rfl) (by simp) ?_
          refine AllReadyIn.cons rfl (fun K hK => ?_) ?_
          · go_simp
            refine hK _ _ ?_
            clear hK K
            refine wpAnyIn_ready (rs := [1, 2, 3]) (by kernel_rfl) (by simp) ?_
            refine AllReadyIn.cons rfl (fun K hK => ?_) ?_
            · go_simp
              refine hK _ _ ?_
              clear hK K
              refine wpAnyIn_ready (rs := [2, 3]) (by kernel_rfl) (by simp) ?_
              refine AllReadyIn.cons rfl (fun K hK => ?_) ?_
              · go_simp
                refine hK _ _ ?_
                clear hK K
                refine wpAnyIn_ready (rs := [3]) (by kernel_rfl) (by simp) ?_
                refine AllReadyIn.cons rfl (fun K hK => ?_) ?_
                · go_simp
                  refine hK _ _ ?_
                  clear hK K
                  refine wpAnyIn_ready (rs := [4]) (by kernel_rfl) (by simp) ?_
                  refine AllReadyIn.cons rfl (fun K hK => ?_) ?_
                  · refine opIn_append (.tmp 32) (.tmp 35) 26 rfl _ rfl rfl rfl hrun ?_
                    refine hK _ _ ?_
                    clear hK K
                    refine wpAnyIn_ready (rs := [5, 7]) (by kernel_rfl) (by simp) ?_
                    refine AllReadyIn.cons rfl (fun K hK => ?_) ?_
                    · go_simp
                      refine hK _ _ ?_
                      clear hK K
                      refine wpAnyIn_ready (rs := [6, 7]) (by kernel_rfl) (by simp) ?_
                      refine AllReadyIn.cons rfl (fun K hK => ?_) ?_
                      · go_simp
                        refine hK _ _ ?_
                        clear hK K
                        refine wpAnyIn_ready (rs := [7]) (by kernel_rfl) (by simp) ?_
                        refine AllReadyIn.cons rfl (fun K hK => ?_) ?_
                        · go_simp
                          refine hK _ _ ?_
                          clear hK K
                          refine wpAnyIn_done (by kernel_rfl) ?_ _
                          exact HF1.out
                        exact AllReadyIn.nil
                      refine AllReadyIn.cons rfl (fun K hK => ?_) ?_
                      · go_simp
                        refine hK _ _ ?_
                        clear hK K
                        refine wpAnyIn_ready (rs := [6]) (by kernel_rfl) (by simp) ?_
                        refine AllReadyIn.cons rfl (fun K hK => ?_) ?_
                        · go_simp
                          refine hK _ _ ?_
                          clear hK K
                          refine wpAnyIn_done (by kernel_rfl) ?_ _
                          exact HF2.out
                        exact AllReadyIn.nil
                      exact AllReadyIn.nil
                    refine AllReadyIn.cons rfl (fun K hK => ?_) ?_
                    · go_simp
                      refine hK _ _ ?_
                      clear hK K
                      refine wpAnyIn_ready (rs := [5]) (by kernel_rfl) (by simp) ?_
                      refine AllReadyIn.cons rfl (fun K hK => ?_) ?_
                      · go_simp
                        refine hK _ _ ?_
                        clear hK K
                        refine wpAnyIn_ready (rs := [6]) (by kernel_rfl) (by simp) ?_
                        refine AllReadyIn.cons rfl (fun K hK => ?_) ?_
                        · go_simp
                          refine hK _ _ ?_
                          clear hK K
                          refine wpAnyIn_done (by kernel_rfl) ?_ _
                          exact HF2.out
                        exact AllReadyIn.nil
                      exact AllReadyIn.nil
                    exact AllReadyIn.nil
                  exact AllReadyIn.nil
                exact AllReadyIn.nil
              refine AllReadyIn.cons rfl (fun K hK => ?_) ?_
              · go_simp
                refine hK _ _ ?_
                clear hK K
                refine wpAnyIn_ready (rs := [2]) (by kernel_rfl) (by simp) ?_
                refine AllReadyIn.cons rfl (fun K hK => ?_) ?_
                · go_simp
                  refine hK _ _ ?_
                  clear hK K
                  refine wpAnyIn_ready (rs := [4]) (by kernel_rfl) (by simp) ?_
                  refine AllReadyIn.cons rfl (fun K hK => ?_) ?_
                  · refine opIn_append (.tmp 32) (.tmp 35) 26 rfl _ rfl rfl rfl hrun ?_
                    refine hK _ _ ?_
                    clear hK K
                    refine wpAnyIn_ready (rs := [5, 7]) (by kernel_rfl) (by simp) ?_
                    refine AllReadyIn.cons rfl (fun K hK => ?_) ?_
                    · go_simp
                      refine hK _ _ ?_
                      clear hK K
                      refine wpAnyIn_ready (rs := [6, 7]) (by kernel_rfl) (by simp) ?_
                      refine AllReadyIn.cons rfl (fun K hK => ?_) ?_
                      · go_simp
                        refine hK _ _ ?_
                        clear hK K
                        refine wpAnyIn_ready (rs := [7]) (by kernel_rfl) (by simp) ?_
                        refine AllReadyIn.cons rfl (fun K hK => ?_) ?_
                        · go_simp
                          refine hK _ _ ?_
                          clear hK K
                          refine wpAnyIn_done (by kernel_rfl) ?_ _
                          exact HF1.out
                        exact AllReadyIn.nil
                      refine AllReadyIn.cons rfl (fun K hK => ?_) ?_
                      · go_simp
                        refine hK _ _ ?_
                        clear hK K
                        refine wpAnyIn_ready (rs := [6]) (by kernel_rfl) (by simp) ?_
                        refine AllReadyIn.cons rfl (fun K hK => ?_) ?_
                        · go_simp
                          refine hK _ _ ?_
                          clear hK K
                          refine wpAnyIn_done (by kernel_rfl) ?_ _
                          exact HF2.out
                        exact AllReadyIn.nil
                      exact AllReadyIn.nil
                    refine AllReadyIn.cons rfl (fun K hK => ?_) ?_
                    · go_simp
                      refine hK _ _ ?_
                      clear hK K
                      refine wpAnyIn_ready (rs := [5]) (by kernel_rfl) (by simp) ?_
                      refine AllReadyIn.cons rfl (fun K hK => ?_) ?_
                      · go_simp
                        refine hK _ _ ?_
                        clear hK K
                        refine wpAnyIn_ready (rs := [6]) (by kernel_rfl) (by simp) ?_
                        refine AllReadyIn.cons rfl (fun K hK => ?_) ?_
                        · go_simp
                          refine hK _ _ ?_
                          clear hK K
                          refine wpAnyIn_done (by kernel_rfl) ?_ _
                          exact HF2.out
                        exact AllReadyIn.nil
                      exact AllReadyIn.nil
                    exact AllReadyIn.nil
                  exact AllReadyIn.nil
                exact AllReadyIn.nil
              exact AllReadyIn.nil
            refine AllReadyIn.cons rfl (fun K hK => ?_) ?_
            · go_simp
              refine hK _ _ ?_
              clear hK K
              refine wpAnyIn_ready (rs := [1, 3]) (by kernel_rfl) (by simp) ?_
              refine AllReadyIn.cons rfl (fun K hK => ?_) ?_
              · go_simp
                refine hK _ _ ?_
                clear hK K
                refine wpAnyIn_ready (rs := [3]) (by kernel_rfl) (by simp) ?_
                refine AllReadyIn.cons rfl (fun K hK => ?_) ?_
                · go_simp
                  refine hK _ _ ?_
                  clear hK K
                  refine wpAnyIn_ready (rs := [4]) (by kernel_rfl) (by simp) ?_
                  refine AllReadyIn.cons rfl (fun K hK => ?_) ?_
                  · refine opIn_append (.tmp 32) (.tmp 35) 26 rfl _ rfl rfl rfl hrun ?_
                    refine hK _ _ ?_
                    clear hK K
                    refine wpAnyIn_ready (rs := [5, 7]) (by kernel_rfl) (by simp) ?_
                    refine AllReadyIn.cons rfl (fun K hK => ?_) ?_
                    · go_simp
                      refine hK _ _ ?_
                      clear hK K
                      refine wpAnyIn_ready (rs := [6, 7]) (by kernel_rfl) (by simp) ?_
                      refine AllReadyIn.cons rfl (fun K hK => ?_) ?_
                      · go_simp
                        refine hK _ _ ?_
                        clear hK K
                        refine wpAnyIn_ready (rs := [7]) (by kernel_rfl) (by simp) ?_
                        refine AllReadyIn.cons rfl (fun K hK => ?_) ?_
                        · go_simp
                          refine hK _ _ ?_
                          clear hK K
                          refine wpAnyIn_done (by kernel_rfl) ?_ _
                          exact HF1.out
                        exact AllReadyIn.nil
                      refine AllReadyIn.cons rfl (fun K hK => ?_) ?_
                      · go_simp
                        refine hK _ _ ?_
                        clear hK K
                        refine wpAnyIn_ready (rs := [6]) (by kernel_rfl) (by simp) ?_
                        refine AllReadyIn.cons rfl (fun K hK => ?_) ?_
                        · go_simp
                          refine hK _ _ ?_
                          clear hK K
                          refine wpAnyIn_done (by kernel_rfl) ?_ _
                          exact HF2.out
                        exact AllReadyIn.nil
                      exact AllReadyIn.nil
                    refine AllReadyIn.cons rfl (fun K hK => ?_) ?_
                    · go_simp
                      refine hK _ _ ?_
                      clear hK K
                      refine wpAnyIn_ready (rs := [5]) (by kernel_rfl) (by simp) ?_
                      refine AllReadyIn.cons rfl (fun K hK => ?_) ?_
                      · go_simp
                        refine hK _ _ ?_
                        clear hK K
                        refine wpAnyIn_ready (rs := [6]) (by kernel_rfl) (by simp) ?_
                        refine AllReadyIn.cons rfl (fun K hK => ?_) ?_
                        · go_simp
                          refine hK _ _ ?_
                          clear hK K
                          refine wpAnyIn_done (by kernel_rfl) ?_ _
                          exact HF2.out
                        exact AllReadyIn.nil
                      exact AllReadyIn.nil
                    exact AllReadyIn.nil
                  exact AllReadyIn.nil
                exact AllReadyIn.nil
              refine AllReadyIn.cons rfl (fun K hK => ?_) ?_
              · go_simp
                refine hK _ _ ?_
                clear hK K
                refine wpAnyIn_ready (rs := [1]) (by kernel_rfl) (by simp) ?_
                refine AllReadyIn.cons rfl (fun K hK => ?_) ?_
                · go_simp
                  refine hK _ _ ?_
                  clear hK K
                  refine wpAnyIn_ready (rs := [4]) (by kernel_rfl) (by simp) ?_
                  refine AllReadyIn.cons rfl (fun K hK => ?_) ?_
                  · refine opIn_append (.tmp 32) (.tmp 35) 26 rfl _ rfl rfl rfl hrun ?_
                    refine hK _ _ ?_
                    clear hK K
                    refine wpAnyIn_ready (rs := [5, 7]) (by kernel_rfl) (by simp) ?_
                    refine AllReadyIn.cons rfl (fun K hK => ?_) ?_
                    · go_simp
                      refine hK _ _ ?_
                      clear hK K
                      refine wpAnyIn_ready (rs := [6, 7]) (by kernel_rfl) (by simp) ?_
                      refine AllReadyIn.cons rfl (fun K hK => ?_) ?_
                      · go_simp
                        refine hK _ _ ?_
                        clear hK K
                        refine wpAnyIn_ready (rs := [7]) (by kernel_rfl) (by simp) ?_
                        refine AllReadyIn.cons rfl (fun K hK => ?_) ?_
                        · go_simp
                          refine hK _ _ ?_
                          clear hK K
                          refine wpAnyIn_done (by kernel_rfl) ?_ _
                          exact HF1.out
                        exact AllReadyIn.nil
                      refine AllReadyIn.cons rfl (fun K hK => ?_) ?_
                      · go_simp
                        refine hK _ _ ?_
                        clear hK K
                        refine wpAnyIn_ready (rs := [6]) (by kernel_rfl) (by simp) ?_
                        refine AllReadyIn.cons rfl (fun K hK => ?_) ?_
                        · go_simp
                          refine hK _ _ ?_
                          clear hK K
                          refine wpAnyIn_done (by kernel_rfl) ?_ _
                          exact HF2.out
                        exact AllReadyIn.nil
                      exact AllReadyIn.nil
                    refine AllReadyIn.cons rfl (fun K hK => ?_) ?_
                    · go_simp
                      refine hK _ _ ?_
                      clear hK K
                      refine wpAnyIn_ready (rs := [5]) (by kernel_rfl) (by simp) ?_
                      refine AllReadyIn.cons rfl (fun K hK => ?_) ?_
                      · go_simp
                        refine hK _ _ ?_
                        clear hK K
                        refine wpAnyIn_ready (rs := [6]) (by kernel_rfl) (by simp) ?_
                        refine AllReadyIn.cons rfl (fun K hK => ?_) ?_
                        · go_simp
                          refine hK _ _ ?_
                          clear hK K
                          refine wpAnyIn_done (by kernel_rfl) ?_ _
                          exact HF2.out
                        exact AllReadyIn.nil
                      exact AllReadyIn.nil
                    exact AllReadyIn.nil
                  exact AllReadyIn.nil
                exact AllReadyIn.nil
              exact AllReadyIn.nil
            refine AllReadyIn.cons rfl (fun K hK => ?_) ?_
            · go_simp
              refine hK _ _ ?_
              clear hK K
              refine wpAnyIn_ready (rs := [1, 2]) (by kernel_rfl) (by simp) ?_
              refine AllReadyIn.cons rfl (fun K hK => ?_) ?_
              · go_simp
                refine hK _ _ ?_
                clear hK K
                refine wpAnyIn_ready (rs := [2]) (by kernel_rfl) (by simp) ?_
                refine AllReadyIn.cons rfl (fun K hK => ?_) ?_
                · go_simp
                  refine hK _ _ ?_
                  clear hK K
                  refine wpAnyIn_ready (rs := [4]) (by kernel_rfl) (by simp) ?_
                  refine AllReadyIn.cons rfl (fun K hK => ?_) ?_
                  · refine opIn_append (.tmp 32) (.tmp 35) 26 rfl _ rfl rfl rfl hrun ?_
                    refine hK _ _ ?_
                    clear hK K
                    refine wpAnyIn_ready (rs := [5, 7]) (by kernel_rfl) (by simp) ?_
                    refine AllReadyIn.cons rfl (fun K hK => ?_) ?_
                    · go_simp
                      refine hK _ _ ?_
                      clear hK K
                      refine wpAnyIn_ready (rs := [6, 7]) (by kernel_rfl) (by simp) ?_
                      refine AllReadyIn.cons rfl (fun K hK => ?_) ?_
                      · go_simp
                        refine hK _ _ ?_
                        clear hK K
                        refine wpAnyIn_ready (rs := [7]) (by kernel_rfl) (by simp) ?_
                        refine AllReadyIn.cons rfl (fun K hK => ?_) ?_
                        · go_simp
                          refine hK _ _ ?_
                          clear hK K
                          refine wpAnyIn_done (by kernel_rfl) ?_ _
                          exact HF1.out
                        exact AllReadyIn.nil
                      refine AllReadyIn.cons rfl (fun K hK => ?_) ?_
                      · go_simp
                        refine hK _ _ ?_
                        clear hK K
                        refine wpAnyIn_ready (rs := [6]) (by kernel_rfl) (by simp) ?_
                        refine AllReadyIn.cons rfl (fun K hK => ?_) ?_
                        · go_simp
                          refine hK _ _ ?_
                          clear hK K
                          refine wpAnyIn_done (by kernel_rfl) ?_ _
                          exact HF2.out
                        exact AllReadyIn.nil
                      exact AllReadyIn.nil
                    refine AllReadyIn.cons rfl (fun K hK => ?_) ?_
                    · go_simp
                      refine hK _ _ ?_
                      clear hK K
                      refine wpAnyIn_ready (rs := [5]) (by kernel_rfl) (by simp) ?_
                      refine AllReadyIn.cons rfl (fun K hK => ?_) ?_
                      · go_simp
                        refine hK _ _ ?_
                        clear hK K
                        refine wpAnyIn_ready (rs := [6]) (by kernel_rfl) (by simp) ?_
                        refine AllReadyIn.cons rfl (fun K hK => ?_) ?_
                        · go_simp
                          refine hK _ _ ?_
                          clear hK K
                          refine wpAnyIn_done (by kernel_rfl) ?_ _
                          exact HF2.out
                        exact AllReadyIn.nil
                      exact AllReadyIn.nil
                    exact AllReadyIn.nil
                  exact AllReadyIn.nil
                exact AllReadyIn.nil
              refine AllReadyIn.cons rfl (fun K hK => ?_) ?_
              · go_simp
                refine hK _ _ ?_
                clear hK K
                refine wpAnyIn_ready (rs := [1]) (by kernel_rfl) (by simp) ?_
                refine AllReadyIn.cons rfl (fun K hK => ?_) ?_
                · go_simp
                  refine hK _ _ ?_
                  clear hK K
                  refine wpAnyIn_ready (rs := [4]) (by kernel_rfl) (by simp) ?_
                  refine AllReadyIn.cons rfl (fun K hK => ?_) ?_
                  · refine opIn_append (.tmp 32) (.tmp 35) 26 rfl _ rfl rfl rfl hrun ?_
                    refine hK _ _ ?_
                    clear hK K
                    refine wpAnyIn_ready (rs := [5, 7]) (by kernel_rfl) (by simp) ?_
                    refine AllReadyIn.cons rfl (fun K hK => ?_) ?_
                    · go_simp
                      refine hK _ _ ?_
                      clear hK K
                      refine wpAnyIn_ready (rs := [6, 7]) (by kernel_rfl) (by simp) ?_
                      refine AllReadyIn.cons rfl (fun K hK => ?_) ?_
                      · go_simp
                        refine hK _ _ ?_
                        clear hK K
                        refine wpAnyIn_ready (rs := [7]) (by kernel_rfl) (by simp) ?_
                        refine AllReadyIn.cons rfl (fun K hK => ?_) ?_
                        · go_simp
                          refine hK _ _ ?_
                          clear hK K
                          refine wpAnyIn_done (by kernel_rfl) ?_ _
                          exact HF1.out
                        exact AllReadyIn.nil
                      refine AllReadyIn.cons rfl (fun K hK => ?_) ?_
                      · go_simp
                        refine hK _ _ ?_
                        clear hK K
                        refine wpAnyIn_ready (rs := [6]) (by kernel_rfl) (by simp) ?_
                        refine AllReadyIn.cons rfl (fun K hK => ?_) ?_
                        · go_simp
                          refine hK _ _ ?_
                          clear hK K
                          refine wpAnyIn_done (by kernel_rfl) ?_ _
                          exact HF2.out
                        exact AllReadyIn.nil
                      exact AllReadyIn.nil
                    refine AllReadyIn.cons rfl (fun K hK => ?_) ?_
                    · go_simp
                      refine hK _ _ ?_
                      clear hK K
                      refine wpAnyIn_ready (rs := [5]) (by kernel_rfl) (by simp) ?_
                      refine AllReadyIn.cons rfl (fun K hK => ?_) ?_
                      · go_simp
                        refine hK _ _ ?_
                        clear hK K
                        refine wpAnyIn_ready (rs := [6]) (by kernel_rfl) (by simp) ?_
                        refine AllReadyIn.cons rfl (fun K hK => ?_) ?_
                        · go_simp
                          refine hK _ _ ?_
                          clear hK K
                          refine wpAnyIn_done (by kernel_rfl) ?_ _
                          exact HF2.out
                        exact AllReadyIn.nil
                      exact AllReadyIn.nil
                    exact AllReadyIn.nil
                  exact AllReadyIn.nil
                exact AllReadyIn.nil
              exact AllReadyIn.nil
            exact AllReadyIn.nil
          refine AllReadyIn.cons rfl (fun K hK => ?_) ?_
          · go_simp
            refine hK _ _ ?_
            clear hK K
            refine wpAnyIn_ready (rs := [0, 3]) (by kernel_rfl) (by simp) ?_
            refine AllReadyIn.cons rfl (fun K hK => ?_) ?_
            · go_simp
              refine hK _ _ ?_
              clear hK K
              refine wpAnyIn_ready (rs := [2, 3]) (by kernel_rfl) (by simp) ?_
              refine AllReadyIn.cons rfl (fun K hK => ?_) ?_
              · go_simp
                refine hK _ _ ?_
                clear hK K
                refine wpAnyIn_ready (rs := [3]) (by kernel_rfl) (by simp) ?_
                refine AllReadyIn.cons rfl (fun K hK => ?_) ?_
                · go_simp
                  refine hK _ _ ?_
                  clear hK K
                  refine wpAnyIn_ready (rs := [4]) (by kernel_rfl) (by simp) ?_
                  refine AllReadyIn.cons rfl (fun K hK => ?_) ?_
                  · refine opIn_append (.tmp 32) (.tmp 35) 26 rfl _ rfl rfl rfl hrun ?_
                    refine hK _ _ ?_
                    clear hK K
                    refine wpAnyIn_ready (rs := [5, 7]) (by kernel_rfl) (by simp) ?_
                    refine AllReadyIn.cons rfl (fun K hK => ?_) ?_
                    · go_simp
                      refine hK _ _ ?_
                      clear hK K
                      refine wpAnyIn_ready (rs := [6, 7]) (by kernel_rfl) (by simp) ?_
                      refine AllReadyIn.cons rfl (fun K hK => ?_) ?_
                      · go_simp
                        refine hK _ _ ?_
                        clear hK K
                        refine wpAnyIn_ready (rs := [7]) (by kernel_rfl) (by simp) ?_
                        refine AllReadyIn.cons rfl (fun K hK => ?_) ?_
                        · go_simp
                          refine hK _ _ ?_
                          clear hK K
                          refine wpAnyIn_done (by kernel_rfl) ?_ _
                          exact HF1.out
                        exact AllReadyIn.nil
                      refine AllReadyIn.cons rfl (fun K hK => ?_) ?_
                      · go_simp
                        refine hK _ _ ?_
                        clear hK K
                        refine wpAnyIn_ready (rs := [6]) (by kernel_rfl) (by simp) ?_
                        refine AllReadyIn.cons rfl (fun K hK => ?_) ?_
                        · go_simp
                          refine hK _ _ ?_
                          clear hK K
                          refine wpAnyIn_done (by kernel_rfl) ?_ _
                          exact HF2.out
                        exact AllReadyIn.nil
                      exact AllReadyIn.nil
                    refine AllReadyIn.cons rfl (fun K hK => ?_) ?_
                    · go_simp
                      refine hK _ _ ?_
                      clear hK K
                      refine wpAnyIn_ready (rs := [5]) (by kernel_rfl) (by simp) ?_
                      refine AllReadyIn.cons rfl (fun K hK => ?_) ?_
                      · go_simp
                        refine hK _ _ ?_
                        clear hK K
                        refine wpAnyIn_ready (rs := [6]) (by kernel_rfl) (by simp) ?_
                        refine AllReadyIn.cons rfl (fun K hK => ?_) ?_
                        · go_simp
                          refine hK _ _ ?_
                          clear hK K
                          refine wpAnyIn_done (by kernel_rfl) ?_ _
                          exact HF2.out
                        exact AllReadyIn.nil
                      exact AllReadyIn.nil
                    exact AllReadyIn.nil
                  exact AllReadyIn.nil
                exact AllReadyIn.nil
              refine AllReadyIn.cons rfl (fun K hK => ?_) ?_
              · go_simp
                refine hK _ _ ?_
                clear hK K
                refine wpAnyIn_ready (rs := [2]) (by kernel_rfl) (by simp) ?_
                refine AllReadyIn.cons rfl (fun K hK => ?_) ?_
                · go_simp
                  refine hK _ _ ?_
                  clear hK K
                  refine wpAnyIn_ready (rs := [4]) (by kernel_rfl) (by simp) ?_
                  refine AllReadyIn.cons rfl (fun K hK => ?_) ?_
                  · refine opIn_append (.tmp 32) (.tmp 35) 26 rfl _ rfl rfl rfl hrun ?_
                    refine hK _ _ ?_
                    clear hK K
                    refine wpAnyIn_ready (rs := [5, 7]) (by kernel_rfl) (by simp) ?_
                    refine AllReadyIn.cons rfl (fun K hK => ?_) ?_
                    · go_simp
                      refine hK _ _ ?_
                      clear hK K
                      refine wpAnyIn_ready (rs := [6, 7]) (by kernel_rfl) (by simp) ?_
                      refine AllReadyIn.cons rfl (fun K hK => ?_) ?_
                      · go_simp
                        refine hK _ _ ?_
                        clear hK K
                        refine wpAnyIn_ready (rs := [7]) (by kernel_rfl) (by simp) ?_
                        refine AllReadyIn.cons rfl (fun K hK => ?_) ?_
                        · go_simp
                          refine hK _ _ ?_
                          clear hK K
                          refine wpAnyIn_done (by kernel_rfl) ?_ _
                          exact HF1.out
                        exact AllReadyIn.nil
                      refine AllReadyIn.cons rfl (fun K hK => ?_) ?_
                      · go_simp
                        refine hK _ _ ?_
                        clear hK K
                        refine wpAnyIn_ready (rs := [6]) (by kernel_rfl) (by simp) ?_
                        refine AllReadyIn.cons rfl (fun K hK => ?_) ?_
                        · go_simp
                          refine hK _ _ ?_
                          clear hK K
                          refine wpAnyIn_done (by kernel_rfl) ?_ _
                          exact HF2.out
                        exact AllReadyIn.nil
                      exact AllReadyIn.nil
                    refine AllReadyIn.cons rfl (fun K hK => ?_) ?_
                    · go_simp
                      refine hK _ _ ?_
                      clear hK K
                      refine wpAnyIn_ready (rs := [5]) (by kernel_rfl) (by simp) ?_
                      refine AllReadyIn.cons rfl (fun K hK => ?_) ?_
                      · go_simp
                        refine hK _ _ ?_
                        clear hK K
                        refine wpAnyIn_ready (rs := [6]) (by kernel_rfl) (by simp) ?_
                        refine AllReadyIn.cons rfl (fun K hK => ?_) ?_
                        · go_simp
                          refine hK _ _ ?_
                          clear hK K
                          refine wpAnyIn_done (by kernel_rfl) ?_ _
                          exact HF2.out
                        exact AllReadyIn.nil
                      exact AllReadyIn.nil
                    exact AllReadyIn.nil
                  exact AllReadyIn.nil
                exact AllReadyIn.nil
              exact AllReadyIn.nil
            refine AllReadyIn.cons rfl (fun K hK => ?_) ?_
            · go_simp
              refine hK _ _ ?_
              clear hK K
              refine wpAnyIn_ready (rs := [0]) (by kernel_rfl) (by simp) ?_
              refine AllReadyIn.cons rfl (fun K hK => ?_) ?_
              · go_simp
                refine hK _ _ ?_
                clear hK K
                refine wpAnyIn_ready (rs := [2]) (by kernel_rfl) (by simp) ?_
                refine AllReadyIn.cons rfl (fun K hK => ?_) ?_
                · go_simp
                  refine hK _ _ ?_
                  clear hK K
                  refine wpAnyIn_ready (rs := [4]) (by kernel_rfl) (by simp) ?_
                  refine AllReadyIn.cons rfl (fun K hK => ?_) ?_
                  · refine opIn_append (.tmp 32) (.tmp 35) 26 rfl _ rfl rfl rfl hrun ?_
                    refine hK _ _ ?_
                    clear hK K
                    refine wpAnyIn_ready (rs := [5, 7]) (by kernel_rfl) (by simp) ?_
                    refine AllReadyIn.cons rfl (fun K hK => ?_) ?_
                    · go_simp
                      refine hK _ _ ?_
                      clear hK K
                      refine wpAnyIn_ready (rs := [6, 7]) (by kernel_rfl) (by simp) ?_
                      refine AllReadyIn.cons rfl (fun K hK => ?_) ?_
                      · go_simp
                        refine hK _ _ ?_
                        clear hK K
                        refine wpAnyIn_ready (rs := [7]) (by kernel_rfl) (by simp) ?_
                        refine AllReadyIn.cons rfl (fun K hK => ?_) ?_
                        · go_simp
                          refine hK _ _ ?_
                          clear hK K
                          refine wpAnyIn_done (by kernel_rfl) ?_ _
                          exact HF1.out
                        exact AllReadyIn.nil
                      refine AllReadyIn.cons rfl (fun K hK => ?_) ?_
                      · go_simp
                        refine hK _ _ ?_
                        clear hK K
                        refine wpAnyIn_ready (rs := [6]) (by kernel_rfl) (by simp) ?_
                        refine AllReadyIn.cons rfl (fun K hK => ?_) ?_
                        · go_simp
                          refine hK _ _ ?_
                          clear hK K
                          refine wpAnyIn_done (by kernel_rfl) ?_ _
                          exact HF2.out
                        exact AllReadyIn.nil
                      exact AllReadyIn.nil
                    refine AllReadyIn.cons rfl (fun K hK => ?_) ?_
                    · go_simp
                      refine hK _ _ ?_
                      clear hK K
                      refine wpAnyIn_ready (rs := [5]) (by kernel_rfl) (by simp) ?_
                      refine AllReadyIn.cons rfl (fun K hK => ?_) ?_
                      · go_simp
                        refine hK _ _ ?_
                        clear hK K
                        refine wpAnyIn_ready (rs := [6]) (by kernel_rfl) (by simp) ?_
                        refine AllReadyIn.cons rfl (fun K hK => ?_) ?_
                        · go_simp
                          refine hK _ _ ?_
                          clear hK K
                          refine wpAnyIn_done (by kernel_rfl) ?_ _
                          exact HF2.out
                        exact AllReadyIn.nil
                      exact AllReadyIn.nil
                    exact AllReadyIn.nil
                  exact AllReadyIn.nil
                exact AllReadyIn.nil
              exact AllReadyIn.nil
            exact AllReadyIn.nil
          refine AllReadyIn.cons rfl (fun K hK => ?_) ?_
          · go_simp
            refine hK _ _ ?_
            clear hK K
            refine wpAnyIn_ready (rs := [0, 1]) (by kernel_rfl) (by simp) ?_
            refine AllReadyIn.cons rfl (fun K hK => ?_) ?_
            · go_simp
              refine hK _ _ ?_
              clear hK K
              refine wpAnyIn_ready (rs := [1, 2]) (by kernel_rfl) (by simp) ?_
              refine AllReadyIn.cons rfl (fun K hK => ?_) ?_
              · go_simp
                refine hK _ _ ?_
                clear hK K
                refine wpAnyIn_ready (rs := [2]) (by kernel_rfl) (by simp) ?_
                refine AllReadyIn.cons rfl (fun K hK => ?_) ?_
                · go_simp
                  refine hK _ _ ?_
                  clear hK K
                  refine wpAnyIn_ready (rs := [4]) (by kernel_rfl) (by simp) ?_
                  refine AllReadyIn.cons rfl (fun K hK => ?_) ?_
                  · refine opIn_append (.tmp 32) (.tmp 35) 26 rfl _ rfl rfl rfl hrun ?_
                    refine hK _ _ ?_
                    clear hK K
                    refine wpAnyIn_ready (rs := [5, 7]) (by kernel_rfl) (by simp) ?_
                    refine AllReadyIn.cons rfl (fun K hK => ?_) ?_
                    · go_simp
                      refine hK _ _ ?_
                      clear hK K
                      refine wpAnyIn_ready (rs := [6, 7]) (by kernel_rfl) (by simp) ?_
                      refine AllReadyIn.cons rfl (fun K hK => ?_) ?_
                      · go_simp
                        refine hK _ _ ?_
                        clear hK K
                        refine wpAnyIn_ready (rs := [7]) (by kernel_rfl) (by simp) ?_
                        refine AllReadyIn.cons rfl (fun K hK => ?_) ?_
                        · go_simp
                          refine hK _ _ ?_
                          clear hK K
                          refine wpAnyIn_done (by kernel_rfl) ?_ _
                          exact HF1.out
                        exact AllReadyIn.nil
                      refine AllReadyIn.cons rfl (fun K hK => ?_) ?_
                      · go_simp
                        refine hK _ _ ?_
                        clear hK K
                        refine wpAnyIn_ready (rs := [6]) (by kernel_rfl) (by simp) ?_
                        refine AllReadyIn.cons rfl (fun K hK => ?_) ?_
                        · go_simp
                          refine hK _ _ ?_
                          clear hK K
                          refine wpAnyIn_done (by kernel_rfl) ?_ _
                          exact HF2.out
                        exact AllReadyIn.nil
                      exact AllReadyIn.nil
                    refine AllReadyIn.cons rfl (fun K hK => ?_) ?_
                    · go_simp
                      refine hK _ _ ?_
                      clear hK K
                      refine wpAnyIn_ready (rs := [5]) (by kernel_rfl) (by simp) ?_
                      refine AllReadyIn.cons rfl (fun K hK => ?_) ?_
                      · go_simp
                        refine hK _ _ ?_
                        clear hK K
                        refine wpAnyIn_ready (rs := [6]) (by kernel_rfl) (by simp) ?_
                        refine AllReadyIn.cons rfl (fun K hK => ?_) ?_
                        · go_simp
                          refine hK _ _ ?_
                          clear hK K
                          refine wpAnyIn_done (by kernel_rfl) ?_ _
                          exact HF2.out
                        exact AllReadyIn.nil
                      exact AllReadyIn.nil
                    exact AllReadyIn.nil
                  exact AllReadyIn.nil
                exact AllReadyIn.nil
              refine AllReadyIn.cons rfl (fun K hK => ?_) ?_
              · go_simp
                refine hK _ _ ?_
                clear hK K
                refine wpAnyIn_ready (rs := [1]) (by kernel_rfl) (by simp) ?_
                refine AllReadyIn.cons rfl (fun K hK => ?_) ?_
                · go_simp
                  refine hK _ _ ?_
                  clear hK K
                  refine wpAnyIn_ready (rs := [4]) (by kernel_rfl) (by simp) ?_
                  refine AllReadyIn.cons rfl (fun K hK => ?_) ?_
                  · refine opIn_append (.tmp 32) (.tmp 35) 26 rfl _ rfl rfl rfl hrun ?_
                    refine hK _ _ ?_
                    clear hK K
                    refine wpAnyIn_ready (rs := [5, 7]) (by kernel_rfl) (by simp) ?_
                    refine AllReadyIn.cons rfl (fun K hK => ?_) ?_
                    · go_simp
                      refine hK _ _ ?_
                      clear hK K
                      refine wpAnyIn_ready (rs := [6, 7]) (by kernel_rfl) (by simp) ?_
                      refine AllReadyIn.cons rfl (fun K hK => ?_) ?_
                      · go_simp
                        refine hK _ _ ?_
                        clear hK K
                        refine wpAnyIn_ready (rs := [7]) (by kernel_rfl) (by simp) ?_
                        refine AllReadyIn.cons rfl (fun K hK => ?_) ?_
                        · go_simp
                          refine hK _ _ ?_
                          clear hK K
                          refine wpAnyIn_done (by kernel_rfl) ?_ _
                          exact HF1.out
                        exact AllReadyIn.nil
                      refine AllReadyIn.cons rfl (fun K hK => ?_) ?_
                      · go_simp
                        refine hK _ _ ?_
                        clear hK K
                        refine wpAnyIn_ready (rs := [6]) (by kernel_rfl) (by simp) ?_
                        refine AllReadyIn.cons rfl (fun K hK => ?_) ?_
                        · go_simp
                          refine hK _ _ ?_
                          clear hK K
                          refine wpAnyIn_done (by kernel_rfl) ?_ _
                          exact HF2.out
                        exact AllReadyIn.nil
                      exact AllReadyIn.nil
                    refine AllReadyIn.cons rfl (fun K hK => ?_) ?_
                    · go_simp
                      refine hK _ _ ?_
                      clear hK K
                      refine wpAnyIn_ready (rs := [5]) (by kernel_rfl) (by simp) ?_
                      refine AllReadyIn.cons rfl (fun K hK => ?_) ?_
                      · go_simp
                        refine hK _ _ ?_
                        clear hK K
                        refine wpAnyIn_ready (rs := [6]) (by kernel_rfl) (by simp) ?_
                        refine AllReadyIn.cons rfl (fun K hK => ?_) ?_
                        · go_simp
                          refine hK _ _ ?_
                          clear hK K
                          refine wpAnyIn_done (by kernel_rfl) ?_ _
                          exact HF2.out
                        exact AllReadyIn.nil
                      exact AllReadyIn.nil
                    exact AllReadyIn.nil
                  exact AllReadyIn.nil
                exact AllReadyIn.nil
              exact AllReadyIn.nil
            refine AllReadyIn.cons rfl (fun K hK => ?_) ?_
            · go_simp
              refine hK _ _ ?_
              clear hK K
              refine wpAnyIn_ready (rs := [0]) (by kernel_rfl) (by simp) ?_
              refine AllReadyIn.cons rfl (fun K hK => ?_) ?_
              · go_simp
                refine hK _ _ ?_
                clear hK K
                refine wpAnyIn_ready (rs := [2]) (by kernel_rfl) (by simp) ?_
                refine AllReadyIn.cons rfl (fun K hK => ?_) ?_
                · go_simp
                  refine hK _ _ ?_
                  clear hK K
                  refine wpAnyIn_ready (rs := [4]) (by kernel_rfl) (by simp) ?_
                  refine AllReadyIn.cons rfl (fun K hK => ?_) ?_
                  · refine opIn_append (.tmp 32) (.tmp 35) 26 rfl _ rfl rfl rfl hrun ?_
                    refine hK _ _ ?_
                    clear hK K
                    refine wpAnyIn_ready (rs := [5, 7]) (by kernel_rfl) (by simp) ?_
                    refine AllReadyIn.cons rfl (fun K hK => ?_) ?_
                    · go_simp
                      refine hK _ _ ?_
                      clear hK K
                      refine wpAnyIn_ready (rs := [6, 7]) (by kernel_rfl) (by simp) ?_
                      refine AllReadyIn.cons rfl (fun K hK => ?_) ?_
                      · go_simp
                        refine hK _ _ ?_
                        clear hK K
                        refine wpAnyIn_ready (rs := [7]) (by kernel_rfl) (by simp) ?_
                        refine AllReadyIn.cons rfl (fun K hK => ?_) ?_
                        · go_simp
                          refine hK _ _ ?_
                          clear hK K
                          refine wpAnyIn_done (by kernel_rfl) ?_ _
                          exact HF1.out
                        exact AllReadyIn.nil
                      refine AllReadyIn.cons rfl (fun K hK => ?_) ?_
                      · go_simp
                        refine hK _ _ ?_
                        clear hK K
                        refine wpAnyIn_ready (rs := [6]) (by kernel_rfl) (by simp) ?_
                        refine AllReadyIn.cons rfl (fun K hK => ?_) ?_
                        · go_simp
                          refine hK _ _ ?_
                          clear hK K
                          refine wpAnyIn_done (by kernel_rfl) ?_ _
                          exact HF2.out
                        exact AllReadyIn.nil
                      exact AllReadyIn.nil
                    refine AllReadyIn.cons rfl (fun K hK => ?_) ?_
                    · go_simp
                      refine hK _ _ ?_
                      clear hK K
                      refine wpAnyIn_ready (rs := [5]) (by kernel_rfl) (by simp) ?_
                      refine AllReadyIn.cons rfl (fun K hK => ?_) ?_
                      · go_simp
                        refine hK _ _ ?_
                        clear hK K
                        refine wpAnyIn_ready (rs := [6]) (by kernel_rfl) (by simp) ?_
                        refine AllReadyIn.cons rfl (fun K hK => ?_) ?_
                        · go_simp
                          refine hK _ _ ?_
                          clear hK K
                          refine wpAnyIn_done (by kernel_rfl) ?_ _
                          exact HF2.out
                        exact AllReadyIn.nil
                      exact AllReadyIn.nil
                    exact AllReadyIn.nil
                  exact AllReadyIn.nil
                exact AllReadyIn.nil
              exact AllReadyIn.nil
            exact AllReadyIn.nil
          exact AllReadyIn.nil
        case done =>
          rintro D ys Wd hD rfl hIn hdf
          obtain ⟨hlt, hnx⟩ := pt_next HI0.out hJ HM4.out HCV.out HJ3.out hb34 hb04 hB hBW hBg (by omega) hD hIn hdf
          refine hK _ _ (Handed.intro _ hlt (hJg _ _ _ ?_))
          exact ⟨_, _, _, _, _, _, _, _, _, _, _, _, _, _, _, _, _, _, _, _, _, _, _, _, _, _, _, _, _, _, _, _, D :: Ds, _, _, rfl, hnx⟩
        case stop => rintro D c9 pre9 W9 _ _ h _; exact h.elim
      · have HD1 := Lib.hid HI0.out.2.1
        rw [HW2.out] at hk3
        have hM2 : Mid n0 B (W.heap.size + 1) g c3 Ds L' x A5 (vs.take L'.length) W2 := by rw [← HW2.out]; exact HM2.out
        have HM3 := Lib.hid (hM2.keep (by omega) hBg (by have := HB.out.size; have := hbw2.size; omega) hk3 (fun k hk => Mild.old hk) (fun k hk => Mild.no hk))
        have HJX := Lib.hid hJx3
        have HJJ := Lib.hid hJx
        have HP := Lib.hid HI0.out.2.2.2.2.1
        have hBW3 : B ≤ W3.heap.size := by have := hk3.size; have := hbw2.size; have := HB.out.size; omega
        clear hM2 hk3 hJx3
        gi_wp2
        refine leaves_marks Ds _ HD1.out (fun D hD => (HM3.out.mrk D hD).2) fun W' hk' => ?_
        refine ⟨_, results_none rfl _ _ _, ⟨_, rfl⟩, .inr ⟨pre ++ [(x, ⟨x.k, x.n, x.s, A5, x.l.length, c5⟩)], ⟨subsL (L' ++ x.l.reverse).reverse, ?_⟩, HJJ.out _ _ _ HJX.out (hk'.to_below hBW3 (fun i _ hi => (HM3.out.mrk i hi).1))⟩⟩
        rw [List.map_append, List.append_assoc]
        show pre.map (·.1) ++ (x :: subsL (L' ++ x.l.reverse).reverse) = _
        rw [← subs_pop]
        exact HP.out
end Go.Proofs.Ytnedjmjcbmoknaa.K
